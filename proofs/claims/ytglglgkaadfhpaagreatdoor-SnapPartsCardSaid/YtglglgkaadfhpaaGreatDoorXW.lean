/-
  CxW: one operation of a region, at whatever time; the region.
-/
import Derived.Test.YtglglgkaadfhpaaGreatDoorXJ
import Derived.RangeFuncLeaves
import Derived.RangeFuncCalls
set_option linter.all false
namespace Go.Cx
variable {P : Program} [Tab P] [TabOk P]

section draw
variable {F : Fence} {R : Rec} {ops : Array Oper} {p : Plan} {Y : Nat → Way} {fr₀ : Fr} {σr : Hp} {ι₀ : Emb} {σ₀ : Hp} {w₀ : World} {ds : List Deferred}
  {m : Nat} {S : Nat → Prop} {ι : Emb} {w : World} {fr : Fr} {a : Act}

theorem put_defers (a : Act) (d : Option Tmp) (v : Value) : (a.put d v).defers = a.defers := by cases d <;> rfl

/-- Behind an operation that is no effect. -/
theorem Inv.quiet (hp : PlanOk ops.toList p) (hY : Ran P R ops.toList p σ₀.next fr₀ σr Y) (h : Inv P ops.toList p Y ι₀ σ₀ w₀ ds m S ι w fr a) {i : Nat} {o : Oper} {v v' : Value} (hi : ops.toList[i]? = some o) (hS : ¬ S i)
    (hv : (Y (i + 1)).fr = putFr (Y i).fr o.dst v) (hpre : ∀ k, (maskAt p i).testBit k = true → S k) (hk : kd o ≠ .eff)
    {V V' : Hp} {ι' : Emb} {w' : World} (hV : Rel P ι V w) (hV' : Rel P ι' V' w') (hs : Step ι V w ι' V' w') (hf : Fresh ι V.next V'.next) (hvv : VRel ι' v v')
    (v1 : ∀ b ob, (Y m).σ.get b = some ob → V.get b = none ∨ V'.get b = some ob)
    (v2 : ∀ k ob, (k, ob) ∈ (Y ops.toList.length).all → S k → (Y m).low.testBit k = false → V.get (σ₀.next + k) = none ∨ V'.get (σ₀.next + k) = some ob)
    (v3 : ∀ ob, (i, ob) ∈ (Y ops.toList.length).all → V'.get (σ₀.next + i) = some ob)
    (v4 : ∀ b, b < σ₀.next → V.is b → σ₀.is b)
    (v5 : σ₀.next ≤ V.next ∧ V.next ≤ (Y m).σ.next ∧ V'.next ≤ (Y m).σ.next)
    (v6 : ∀ k, k ≠ i → σ₀.next + k < V.next ∨ V'.next ≤ σ₀.next + k) :
    Inv P ops.toList p Y ι₀ σ₀ w₀ ds m (fun k => S k ∨ k = i) ι' w' (putFr fr o.dst v) (a.put o.dst v') := by
  obtain ⟨f1, f2⟩ := h.frames hp hY hi hS hv hpre
  have hin : i < ops.toList.length := (List.getElem?_eq_some_iff.1 hi).1
  have holds : ∀ b ob, (Y m).σ.get b = some ob → Holds P ι' w' b ob := fun b ob hb => Holds.keep hV hV' hs hf (h.rel.live b ob hb) (v1 b ob hb)
  refine ⟨h.hm, ?_, ?_, ?_, ?_, ?_, ?_, h.room, h.own, ?_, ?_, ?_, f1, f2, ?_, ?_⟩
  · intro j k hj hb
    rcases hj with hj | rfl
    · exact .inl (h.closed j k hj hb)
    · exact .inl (hpre k hb)
  · intro j x hx hkx
    have : j ≠ i := fun e => by subst e; rw [hi] at hx; cases hx; exact hk hkx
    rw [← h.stage j x hx hkx]
    exact ⟨fun h => h.resolve_right this, .inl⟩
  · rintro j (hj | rfl)
    · exact h.lt j hj
    · exact hin
  · exact hV'.sub h.rel.base h.rel.ids holds
  · exact h.step.mid hs hV v5.1 v5.2.1 v5.2.2 (Nat.le_refl _) v4 h.step.stay fun b h1 h2 => by omega
  · intro b hb
    rcases hs.old b (.inr (by omega)) with k1 | ⟨_, ⟨x, hx⟩, _⟩
    · rw [k1]; exact h.free b hb
    · have := hV.ids b x hx; omega
  · rintro k ob hm (hk | rfl) hl
    · exact Holds.keep hV hV' hs hf (h.held k ob hm hk hl) (v2 k ob hm hk hl)
    · exact hV'.live _ _ (v3 ob hm)
  · intro k hk hn
    have hn1 : ¬ S k := fun hh => hn (.inl hh)
    have hn2 : k ≠ i := fun hh => hn (.inr hh)
    rcases hs.old _ (v6 k hn2) with k1 | ⟨_, ⟨x, hx⟩, _⟩
    · rw [k1]; exact h.unb k hk hn1
    · obtain ⟨s, hs', _⟩ := hV.live _ x hx
      rw [h.unb k hk hn1] at hs'; cases hs'
  · exact (h.frel.mono (hs.le hf)).putFr hvv _
  · rw [putFr_n]; exact h.nn
  · rw [put_defers]; exact h.defers

/-- One operation. -/
theorem Inv.op (ho : Opn F) (hR : Calls' P R) (hg : Room P) (hp : PlanOk ops.toList p) (hY : Ran P R ops.toList p σ₀.next fr₀ σr Y)
    (hag : agrees P ops.toList p σ₀.next (Y ops.toList.length).all (Y ops.toList.length).stages (Y ops.toList.length).loads = true)
    (h : Inv P ops.toList p Y ι₀ σ₀ w₀ ds m S ι w fr a) (hglob : P.globals.size ≤ σ₀.next) {i : Nat} {o : Oper} (hi : ops.toList[i]? = some o) (hS : ¬ S i)
    (hrdy : ∀ e ∈ o.after, Region.binds .any e = true → S e.on) {Q : Exit → Act → World → Prop} {K : Act → World → Prop}
    (hK : ∀ m' ι' w' fr' a', Inv P ops.toList p Y ι₀ σ₀ w₀ ds m' (fun k => S k ∨ k = i) ι' w' fr' a' → K a' w') : wpOpIn F 0 P ops Q i K a w := by
  have hin : i < ops.toList.length := (List.getElem?_eq_some_iff.1 hi).1
  have hio : ops[i]? = some o := by rw [← Array.getElem?_toList]; exact hi
  have hpre : ∀ k, (maskAt p i).testBit k = true → S k := by
    intro k hk
    obtain ⟨e, q1, q2, q3⟩ := hp.only i o hi k hk
    have := hrdy e q1 q2
    rcases q3 with rfl | q3
    · exact this
    · exact h.closed e.on k this q3
  have hnames := h.names hp hY hi hS hpre
  have hops : ∀ x ∈ o.op.operands, ev fr x = ev (Y i).fr x := by
    intro x hx
    cases x with
    | tmp t => exact hnames t (by
        unfold namesOf
        rw [List.mem_append]
        exact .inl (List.mem_filterMap.2 ⟨.tmp t, by simpa using hx, rfl⟩))
    | const v => rfl
    | global g => rfl
    | func f => rfl
  have hwant : wanted ops.toList fr o = wanted ops.toList (Y i).fr o := wanted_congr fun g want d h1 h2 => hnames d (by
    unfold namesOf
    rw [List.mem_append, h1]
    exact .inr (by simpa using h2))
  obtain ⟨o', b, v, h1, h2, hsaw⟩ := hY.saw hin
  rw [hi] at h1; cases h1
  have hb : Region.wanted o (yielded ops a.tmps) = b := wanted_ok h.frel (hwant.trans h2)
  have hlow : ∀ k, (Y m).low.testBit k = true → S k := by
    intro k hk
    obtain ⟨e, x, q1, q2, q3, q4⟩ := (hY.low h.hm k).1 hk
    have := (h.stage e x q2 q3).2 q1
    rcases q4 with rfl | q4
    · exact this
    · exact h.closed e k this q4
  have hlowi : (Y m).low.testBit i = false := by
    cases hh : (Y m).low.testBit i with
    | false => rfl
    | true => exact absurd (hlow i hh) hS
  have hnext : σ₀.next ≤ (Y m).σ.next := by have := h.room; omega
  have hrefl : ∀ {V : Hp}, Rel P ι V w → After P ι V w V undef undef w := fun hV => ⟨ι, hV, Step.refl _ _ _, VRel.undef⟩
  have hz : ∀ x, x ∈ (Y (i + 1)).all → x ∈ (Y ops.toList.length).all := fun x hx => by
    have := (hY.mono (m := i + 1) (d := ops.toList.length - (i + 1)) (by omega)).1 x hx
    have e : i + 1 + (ops.toList.length - (i + 1)) = ops.toList.length := by omega
    rwa [e] at this
  have notmade : kd o ≠ .alloc → ∀ ob, (i, ob) ∈ (Y ops.toList.length).all → False := by
    intro hk ob hm'
    obtain ⟨⟨_, x, _, _, q1, q2, _⟩, _⟩ := hY.made (Nat.le_refl _) hm'
    rw [hi] at q1; cases q1
    exact hk q2
  generalize hy : Y (i + 1) = y at hsaw
  cases hsaw with
  | pure hk hpl hn =>
    rename_i σ1
    have hrv : Rel P ι (void σ₀.next) w := h.rel.void hglob
    refine op_go ho (C := fun v' w' => ∃ V', V'.next = σ₀.next ∧ After P ι (void σ₀.next) w V' v v' w') hio hb ?_ fun v' w' ⟨V', e, ι', k1, k2, k3⟩ => ?_
    · cases b with
      | true =>
        refine .inl ⟨rfl, fun next Q hn' => plain_does ho hg hrv ?_ h.frel ((plain_congr hops).trans hpl) next Q fun v' w' ha => hn' v' w' ⟨σ1, hn, ha⟩⟩
        intro b h1 h2; simp [hn] at h1 h2; omega
      | false => cases hpl; exact .inr ⟨rfl, void σ₀.next, rfl, hrefl hrv⟩
    · refine hK m ι' w' _ _ (h.quiet hp hY hi hS (by rw [hy]) hpre (by rw [hk]; simp) hrv k1 k2 (fun b h1 h2 => by simp [e] at h1 h2; omega) k3 (fun b ob _ => .inl (by simp)) (fun k ob _ _ _ => .inl (by simp))
        (fun ob hm' => (notmade (by rw [hk]; simp) ob hm').elim) (fun b _ hh => (void_is hh).elim) ⟨Nat.le_refl _, hnext, by omega⟩ fun k _ => .inr (by omega))
  | idle hk hb' hv' =>
    subst hb' hv'
    have hrv : Rel P ι (void σ₀.next) w := h.rel.void hglob
    refine op_go ho (C := fun v' w' => v' = undef ∧ w' = w) hio hb (.inr ⟨rfl, rfl, rfl⟩) fun v' w' ⟨e1, e2⟩ => ?_
    subst e1 e2
    refine hK m ι w' _ _ (h.quiet hp hY hi hS (by rw [hy]) hpre (by rcases hk with hk | hk <;> (rw [hk]; simp)) hrv hrv (Step.refl _ _ _) (fun b h1 h2 => by simp at h1 h2; omega) VRel.undef (fun b ob _ => .inl (by simp)) (fun k ob _ _ _ => .inl (by simp))
        (fun ob hm' => ?_) (fun b _ hh => (void_is hh).elim) ⟨Nat.le_refl _, hnext, hnext⟩ fun k _ => .inr (by simp))
    obtain ⟨⟨_, x, _, _, q1, q2, q3, _⟩, _⟩ := hY.made (Nat.le_refl _) hm'
    rw [hi] at q1; cases q1
    rw [h2] at q3; cases q3
  | load hk hb' =>
    subst hb'
    have hld : (i, (Y i).fr, v) ∈ (Y ops.toList.length).loads := by
      have := (hY.mono (m := i + 1) (d := ops.toList.length - (i + 1)) (by omega)).2.1 (i, (Y i).fr, v) (by rw [hy]; simp)
      have e : i + 1 + (ops.toList.length - (i + 1)) = ops.toList.length := by omega
      rwa [e] at this
    have hst : ((Y m).σ, (Y m).low) ∈ (Y ops.toList.length).stages := by
      have := (hY.mono (m := m) (d := ops.toList.length - m) (by have := h.hm; omega)).2.2 _ (hY.staged h.hm)
      have e : m + (ops.toList.length - m) = ops.toList.length := by have := h.hm; omega
      rwa [e] at this
    have hmay : mayCome p i (Y m).low = true := by
      unfold mayCome
      rw [hlowi]
      simp only [Bool.not_false, Bool.true_and]
      rw [Nat.beq_eq]
      refine Nat.eq_of_testBit_eq fun k => ?_
      simp only [Nat.testBit_and]
      cases h1 : p.bits.testBit k with
      | false => rfl
      | true =>
        cases h2 : (maskAt p i).testBit k with
        | false => rfl
        | true =>
          obtain ⟨x, q1, q2⟩ := (hp.bits k).1 h1
          have := (hY.low h.hm k).2 ⟨k, x, (h.stage k x q1 q2).1 (hpre k h2), q1, q2, .inl rfl⟩
          simp [this]
    obtain ⟨x, u, σ1, q1, hpl, hq⟩ := agree_ok (agrees_ok hag _ _ _ hld) _ _ hst hmay
    rw [hi] at q1; cases q1
    have := veq_eq 8 u v hq
    subst this
    have hσ := load_same hk hpl
    subst hσ
    generalize hVd : adopt σ₀.next (maskAt p i) (Y m).low (Y ops.toList.length).all (Y m).σ = V at hpl
    have hVn : V.next = (Y m).σ.next := by rw [← hVd, adopt_next]
    have hVget : ∀ b ob, V.get b = some ob → (∃ k, (k, ob) ∈ (Y ops.toList.length).all ∧ b = σ₀.next + k ∧ (maskAt p i).testBit k = true ∧ (Y m).low.testBit k = false) ∨ (Y m).σ.get b = some ob :=
      fun b ob hb => adopt_get (by rw [hVd]; exact hb)
    have hVh : ∀ b ob, V.get b = some ob → Holds P ι w b ob := by
      intro b ob hb
      rcases hVget b ob hb with ⟨k, q1, rfl, q3, q4⟩ | q
      · exact h.held k ob q1 (hpre k q3) q4
      · exact h.rel.live b ob q
    have hV : Rel P ι V w := h.rel.sub (by rw [hVn]; exact h.rel.base) (fun b ob hb => by
      rw [hVn]
      rcases hVget b ob hb with ⟨k, q1, rfl, q3, q4⟩ | q
      · have := (hY.made (Nat.le_refl _) q1).1.1; have := h.room; omega
      · exact h.rel.ids b ob q) hVh
    refine op_go ho hio hb (.inl ⟨rfl, plain_does ho hg hV (fun b h1 h2 => by omega) h.frel ((plain_congr hops).trans hpl)⟩) fun v' w' ⟨ι', k1, k2, k3⟩ => ?_
    refine hK m ι' w' _ _ (h.quiet hp hY hi hS (by rw [hy]) hpre (by rw [hk]; simp) hV k1 k2 (fun b h1 h2 => by omega) k3 (fun b ob hb => ?_) (fun k ob q1 q2 q3 => ?_)
        (fun ob hm' => (notmade (by rw [hk]; simp) ob hm').elim) (fun b hb hh => ?_) ⟨by omega, by omega, by omega⟩ fun k _ => by omega)
    · refine .inr ?_
      rw [← hVd, adopt_other]
      · exact hb
      · intro k ob' q1 q2 e
        have := h.own k (hY.made (Nat.le_refl _) q1).1.1 ⟨ob, by rw [← e]; exact hb⟩
        rw [this] at q2; cases q2
    · cases hq : V.get (σ₀.next + k) with
      | none => exact .inl rfl
      | some ob' =>
        refine .inr ?_
        rcases hVget _ ob' hq with ⟨k', r1, r2, r3, r4⟩ | r
        · have : k' = k := by omega
          subst this
          rw [hY.once (Nat.le_refl _) q1 r1]
        · have := h.own k (hY.made (Nat.le_refl _) q1).1.1 ⟨ob', r⟩
          rw [this] at q3; cases q3
    · obtain ⟨ob, hob⟩ := hh
      rcases hVget b ob hob with ⟨k, _, e, _⟩ | r
      · omega
      · exact h.step.stay b hb ⟨ob, r⟩
  | alloc hk hb' hpl hn hr hget =>
    rename_i σ1 ob
    subst hb'
    have hrv : Rel P ι (void (σ₀.next + i)) w := h.rel.void (by omega)
    have hfr : Fresh ι (void (σ₀.next + i)).next σ1.next := by
      intro b h1 h2
      have : b = σ₀.next + i := by simp at h1; omega
      subst this
      exact h.unb i hr hS
    refine op_go ho hio hb (.inl ⟨rfl, plain_does ho hg hrv hfr h.frel ((plain_congr hops).trans hpl)⟩) fun v' w' ⟨ι', k1, k2, k3⟩ => ?_
    have hroom := h.room
    refine hK m ι' w' _ _ (h.quiet hp hY hi hS (by rw [hy]) hpre (by rw [hk]; simp) hrv k1 k2 hfr k3 (fun b ob _ => .inl (by simp)) (fun k ob _ _ _ => .inl (by simp))
        (fun ob' hm' => ?_) (fun b _ hh => (void_is hh).elim) ⟨by simp, by simp; omega, by omega⟩ fun k hk => by simp; omega)
    rw [hY.once (Nat.le_refl _) hm' (hz (i, ob) (by rw [hy]; simp))]
    exact hget
  | eff hk hpl =>
    rename_i σ1
    have noeff : ∀ k, m ≤ k → k < i → ∀ x, ops.toList[k]? = some x → kd x ≠ .eff := by
      intro k h1 h2 x hx hkx
      have := hpre k (hp.chain k i x o hx hi hkx hk h2)
      have := (h.stage k x hx hkx).1 this
      omega
    have hmi : m ≤ i := by
      by_cases hle : m ≤ i
      · exact hle
      · exact absurd ((h.stage i o hi hk).2 (by omega)) hS
    have hq := hY.quiet (m := m) (d := i - m) (by omega) fun k h1 h2 x hx => noeff k h1 (by omega) x hx
    have emi : m + (i - m) = i := by omega
    rw [emi] at hq
    rw [hq.1, hq.2] at hpl
    have hyz : ∀ x, x ∈ (Y i).all → x ∈ (Y ops.toList.length).all := fun x hx => by
      have := (hY.mono (m := i) (d := ops.toList.length - i) (by omega)).1 x hx
      have e : i + (ops.toList.length - i) = ops.toList.length := by omega
      rwa [e] at this
    generalize hVd : adopt σ₀.next (maskAt p i) (Y m).low (Y i).all (Y m).σ = V at hpl
    have hVn : V.next = (Y m).σ.next := by rw [← hVd, adopt_next]
    have hVget : ∀ b ob, V.get b = some ob → (∃ k, (k, ob) ∈ (Y ops.toList.length).all ∧ b = σ₀.next + k ∧ (maskAt p i).testBit k = true ∧ (Y m).low.testBit k = false) ∨ (Y m).σ.get b = some ob :=
      fun b ob hb => (adopt_get (by rw [hVd]; exact hb)).imp (fun ⟨k, q1, q2⟩ => ⟨k, hyz _ q1, q2⟩) id
    have hVh : ∀ b ob, V.get b = some ob → Holds P ι w b ob := by
      intro b ob hb
      rcases hVget b ob hb with ⟨k, q1, rfl, q3, q4⟩ | q
      · exact h.held k ob q1 (hpre k q3) q4
      · exact h.rel.live b ob q
    have hV : Rel P ι V w := h.rel.sub (by rw [hVn]; exact h.rel.base) (fun b ob hb => by
      rw [hVn]
      rcases hVget b ob hb with ⟨k, q1, rfl, q3, q4⟩ | q
      · have := (hY.made (Nat.le_refl _) q1).1.1; have := h.room; omega
      · exact h.rel.ids b ob q) hVh
    have hVf : Free ι V.next := by rw [hVn]; exact h.free
    refine op_go ho (C := After P ι V w σ1 v) hio hb ?_ fun v' w' ⟨ι', k1, k2, k3⟩ => ?_
    · cases b with
      | true => exact .inl ⟨rfl, hR.oper F ho hV hVf h.frel ((oper_congr hops).trans hpl)⟩
      | false => cases hpl; exact .inr ⟨rfl, hrefl hV⟩
    · have hyσ : (Y (i + 1)).σ = σ1 := by rw [hy]
      have hyl : (Y (i + 1)).low = (Y m).low ||| maskAt p i ||| 2 ^ i := by rw [hy]; simp only; rw [hq.2]
      obtain ⟨f1, f2⟩ := h.frames hp hY (v := v) hi hS (by rw [hy]) hpre
      have hroom := h.room
      have hVbase : ∀ b, b < σ₀.next → V.is b → σ₀.is b := by
        rintro b hb ⟨ob, hob⟩
        rcases hVget b ob hob with ⟨k, _, e, _⟩ | r
        · omega
        · exact h.step.stay b hb ⟨ob, r⟩
      have lowbit : ∀ k, (Y (i + 1)).low.testBit k = true ↔ (Y m).low.testBit k = true ∨ (maskAt p i).testBit k = true ∨ k = i := by
        intro k
        rw [hyl, Nat.testBit_or, Nat.testBit_or, Bool.or_eq_true, Bool.or_eq_true, Nat.testBit_two_pow, decide_eq_true_eq, or_assoc]
        constructor
        · rintro (q | q | q)
          · exact .inl q
          · exact .inr (.inl q)
          · exact .inr (.inr q.symm)
        · rintro (q | q | q)
          · exact .inl q
          · exact .inr (.inl q)
          · exact .inr (.inr q.symm)
      have hVk : ∀ k, V.is (σ₀.next + k) → k < p.room → (Y (i + 1)).low.testBit k = true := by
        rintro k ⟨ob, hob⟩ hkr
        rw [lowbit]
        rcases hVget _ ob hob with ⟨k', _, e, q3, _⟩ | r
        · have : k' = k := by omega
          subst this; exact .inr (.inl q3)
        · exact .inl (h.own k hkr ⟨ob, r⟩)
      refine hK (i + 1) ι' w' (putFr fr o.dst v) (a.put o.dst v') ⟨by omega, ?_, ?_, ?_, by rw [hyσ]; exact k1, ?_, by rw [hyσ]; exact hVf.step hV k2, ?_, ?_, ?_, ?_, ?_, f1, f2, by rw [putFr_n]; exact h.nn, by rw [put_defers]; exact h.defers⟩
      · intro j k hj hb
        rcases hj with hj | rfl
        · exact .inl (h.closed j k hj hb)
        · exact .inl (hpre k hb)
      · intro j x hx hkx
        constructor
        · rintro (hj | rfl)
          · have := (h.stage j x hx hkx).1 hj; omega
          · omega
        · intro hj
          by_cases hji : j = i
          · exact .inr hji
          · refine .inl ((h.stage j x hx hkx).2 ?_)
            by_cases hjm : j < m
            · exact hjm
            · exact absurd hkx (noeff j (by omega) (by omega) x hx)
      · rintro j (hj | rfl)
        · exact h.lt j hj
        · exact hin
      · rw [hyσ]
        refine h.step.mid k2 hV (by omega) (by omega) (Nat.le_refl _) (by have := k2.next; omega) hVbase (fun b hb hh => hVbase b hb (k2.stay b (by omega) hh)) fun b h1 h2 => ⟨by omega, h2⟩
      · rw [hyσ]; have := k2.next; omega
      · rw [hyσ]
        intro k hkr hh
        exact hVk k (k2.stay _ (by omega) hh) hkr
      · intro k ob hm' hk' hl
        have hn : ∀ b, (Y (i + 1)).low.testBit k = b → b = false := fun b hb => by rw [← hb]; exact hl
        have l1 : (Y m).low.testBit k = false := by
          cases hh : (Y m).low.testBit k with
          | false => rfl
          | true => have := (lowbit k).2 (.inl hh); rw [hl] at this; cases this
        have hSk : S k := by
          rcases hk' with hk' | rfl
          · exact hk'
          · have := (lowbit k).2 (.inr (.inr rfl)); rw [hl] at this; cases this
        refine Holds.keep hV k1 k2 (hVf.fresh _) (h.held k ob hm' hSk l1) (.inl ?_)
        cases hq : V.get (σ₀.next + k) with
        | none => rfl
        | some ob' =>
          have := hVk k ⟨ob', hq⟩ (hY.made (Nat.le_refl _) hm').1.1
          rw [hl] at this; cases this
      · intro k hkr hn'
        have hn1 : ¬ S k := fun hh => hn' (.inl hh)
        rcases k2.old (σ₀.next + k) (.inl (by omega)) with q1 | ⟨_, ⟨x, hx⟩, _⟩
        · rw [q1]; exact h.unb k hkr hn1
        · obtain ⟨s, hs', _⟩ := hV.live _ x hx
          rw [h.unb k hkr hn1] at hs'; cases hs'
      · exact (h.frel.mono (k2.le (hVf.fresh _))).putFr k3 _

end draw
end Go.Cx

/-
  CxX: the region that draws its order.
-/

namespace Go.Cx
variable {P : Program} [Tab P] [TabOk P]

theorem countP_lt {α : Type} {f g : α → Bool} (hle : ∀ x, f x = true → g x = true) : ∀ {l : List α} {x : α}, x ∈ l → g x = true → f x = false → l.countP f + 1 ≤ l.countP g := by
  have hall : ∀ l : List α, l.countP f ≤ l.countP g := fun l => List.countP_mono_left fun x _ => hle x
  intro l
  induction l with
  | nil => intro x hx; simp at hx
  | cons y l ih =>
    intro x hx hg hf
    rw [List.countP_cons, List.countP_cons]
    rcases List.mem_cons.1 hx with rfl | hx
    · simp only [hg, hf, if_true, Bool.false_eq_true, if_false]
      have := hall l; omega
    · have := ih hx hg hf
      cases hy : f y with
      | true => simp only [hle y hy, if_true]; omega
      | false => simp only [Bool.false_eq_true, if_false]; omega

def unlisted (n : Nat) (listed : Array Bool) : Nat := (List.range n).countP fun i => !listed.getD i false

section draw
variable {F : Fence} {R : Rec} {ops : Array Oper} {p : Plan} {Y : Nat → Way} {fr₀ : Fr} {σr : Hp} {ι₀ : Emb} {σ₀ : Hp} {w₀ : World} {ds : List Deferred}

theorem all_listed {listed : Array Bool} (hp : PlanOk ops.toList p) (hsz : listed.size = ops.size) (h : Region.ready .any ops listed = []) : ∀ i, i < ops.toList.length → listed.getD i false = true := by
  intro i
  induction i using Nat.strongRecOn with
  | _ i ih =>
    intro hi
    cases hl : listed.getD i false with
    | true => rfl
    | false =>
      have hi' : i < ops.size := by simpa using hi
      have : i ∈ Region.ready .any ops listed := by
        rw [mem_ready]
        refine ⟨?_, ops[i], by simp [hi'], fun e he hb => ?_⟩
        · have : i < listed.size := by omega
          simp [this] at hl ⊢; exact hl
        · have hlt := (hp.pre i ops[i] (by simp [hi']) e he hb).1
          exact ih e.on hlt (by omega)
      rw [h] at this; cases this

theorem any_ok (ho : Opn F) (hR : Calls' P R) (hg : Room P) (hp : PlanOk ops.toList p) (hY : Ran P R ops.toList p σ₀.next fr₀ σr Y)
    (hag : agrees P ops.toList p σ₀.next (Y ops.toList.length).all (Y ops.toList.length).stages (Y ops.toList.length).loads = true) (hglob : P.globals.size ≤ σ₀.next) {Q : Exit → Act → World → Prop}
    (hQ : ∀ m S ι w fr a, Inv P ops.toList p Y ι₀ σ₀ w₀ ds m S ι w fr a → (∀ i, i < ops.toList.length → S i) → Q .normal a w) :
    ∀ (fuel : Nat) (listed : Array Bool) {m : Nat} {ι : Emb} {w : World} {fr : Fr} {a : Act}, Inv P ops.toList p Y ι₀ σ₀ w₀ ds m (fun i => listed.getD i false = true) ι w fr a → listed.size = ops.size →
      unlisted ops.toList.length listed ≤ fuel → wpAnyIn F 0 P .any ops Q fuel listed a w := by
  intro fuel
  induction fuel with
  | zero =>
    intro listed m ι w fr a h hsz hu
    have hall : ∀ i, i < ops.toList.length → listed.getD i false = true := by
      intro i hi
      have := List.countP_eq_zero.1 (Nat.le_zero.1 hu) i (List.mem_range.2 hi)
      simpa using this
    refine ⟨?_, hQ _ _ _ _ _ _ h hall⟩
    cases hr : Region.ready .any ops listed with
    | nil => rfl
    | cons j l =>
      have : j ∈ Region.ready .any ops listed := by rw [hr]; simp
      obtain ⟨h1, o, h2, _⟩ := mem_ready.1 this
      have hj : j < ops.toList.length := by have := (Array.getElem?_eq_some_iff.1 h2).1; simpa using this
      have := hall j hj
      have hlt : j < listed.size := by rw [hsz]; simpa using hj
      simp [hlt] at h1 this
      rw [h1] at this; cases this
  | succ fuel ih =>
    intro listed m ι w fr a h hsz hu
    refine ⟨fun hr => hQ _ _ _ _ _ _ h (all_listed hp hsz hr), fun i hi => ?_⟩
    obtain ⟨h1, o, h2, h3⟩ := mem_ready.1 hi
    have hj : i < ops.size := (Array.getElem?_eq_some_iff.1 h2).1
    have hlt : i < listed.size := by omega
    have hnot : ¬ listed.getD i false = true := by simp [hlt] at h1 ⊢; exact h1
    refine h.op ho hR hg hp hY hag hglob (by rw [Array.getElem?_toList]; exact h2) hnot (fun e he hb => h3 e he hb) fun m' ι' w' fr' a' hi' => ?_
    have hS : (fun k => listed.getD k false = true ∨ k = i) = fun k => (listed.setIfInBounds i true).getD k false = true := by
      funext k
      apply propext
      by_cases hk : k = i
      · subst hk; simp [hlt]
      · have : ¬ i = k := fun e => hk e.symm
        simp [hk, Array.getElem?_setIfInBounds, this]
    rw [hS] at hi'
    refine ih _ hi' (by simp [hsz]) ?_
    have := countP_lt (f := fun k => !(listed.setIfInBounds i true).getD k false) (g := fun k => !listed.getD k false) (fun k hk => by
      have := congrFun hS k
      simp only [Bool.not_eq_true'] at hk ⊢
      cases hh : listed.getD k false with
      | false => rfl
      | true => have := this.mp (.inl hh); rw [hk] at this; cases this) (l := List.range ops.toList.length) (x := i) (List.mem_range.2 (by simpa using hj)) (by simpa using hnot) (by simp [hlt])
    unfold unlisted at hu ⊢
    omega

theorem drawn_ok (ho : Opn F) (hR : Calls' P R) (hg : Room P) {id : Nat} (hm : P.follows .mixedOrders = true) {Q : Exit → Act → World → Prop} {ι : Emb} {σ σ' : Hp} {w : World} {fr fr' : Fr} {a : Act} (hr : Rel P ι σ w) (hfree : Free ι σ.next) (hfr : FRel ι fr a.tmps)
    (h : drawn P R ops.toList fr σ = .ok (fr', σ')) (hQ : ∀ a' w', Leaves P ι σ w σ' fr' a.defers a' w' → Q .normal a' w') : (Code.region id ops true).wpIn F 0 P Q a w := by
  refine wpIn_region_any hm ?_
  unfold drawn at h
  obtain ⟨p, hp, h⟩ := Res.bind_ok.1 h
  have hp := plan_ok (need_ok.1 hp)
  obtain ⟨z, hz, h⟩ := Res.bind_ok.1 h
  obtain ⟨hag, h⟩ := sure_ok.1 h
  cases h
  rw [List.range_eq_range'] at hz
  obtain ⟨Y, y1, y2, y3⟩ := along_trace _ _ hz
  rw [Nat.zero_add] at y3
  have hY : Ran P R ops.toList p σ.next fr (raised σ p.room) Y := ⟨y1, fun m hm => y2 m (Nat.zero_le _) (by omega)⟩
  have hag' : agrees P ops.toList p σ.next (Y ops.toList.length).all (Y ops.toList.length).stages (Y ops.toList.length).loads = true := by rw [y3]; exact hag
  have hsub : ∀ b o, (raised σ p.room).get b = some o → σ.get b = some o := fun b o hb => hb
  have hrel : Rel P ι (raised σ p.room) { w with drawn := w.drawn + 1 } :=
    ⟨fun b o hb => hr.live b o hb, hr.inj, hr.bound, hr.glob, hr.gborn, by have := hr.base; simp only [raised]; omega, fun b o hb => by have := hr.ids b o hb; simp only [raised]; omega, hr.names⟩
  have hin : Inv P ops.toList p Y ι σ w a.defers 0 (fun i => (Array.replicate ops.size false).getD i false = true) ι { w with drawn := w.drawn + 1 } fr a := by
    have hno : ∀ i, ¬ ((Array.replicate ops.size false).getD i false = true) := by
      intro i hi
      by_cases hlt : i < ops.size
      · simp [hlt] at hi
      · simp [hlt] at hi
    refine ⟨Nat.zero_le _, fun i k hi => absurd hi (hno i), fun i o _ _ => ⟨fun hi => absurd hi (hno i), fun h => by omega⟩, fun i hi => absurd hi (hno i), ?_, ?_, ?_, ?_, ?_, fun k ob _ hk => absurd hk (hno k), ?_, hfr, fun t k o hk => absurd hk (hno k), ?_, ?_, rfl⟩
    · rw [y1]; exact hrel
    · rw [y1]
      exact ⟨by simp [raised], Nat.le_refl _, fun b _ => .inl rfl, fun x _ _ => rfl, fun b s h1 h2 hs => (by rw [hfree b h1] at hs; cases hs), fun b _ hh => hh, rfl, rfl, rfl⟩
    · rw [y1]; exact fun b hb => hfree b (by simp only [raised] at hb; omega)
    · rw [y1]; simp [raised]
    · rw [y1]
      rintro k _ ⟨o, hb⟩
      have := hr.ids _ o hb; omega
    · intro k _ _; exact hfree _ (by omega)
    · intro t _; rw [y1]
    · rw [y1]
  refine any_ok ho hR hg hp hY hag' hr.base ?_ _ _ hin (by simp) (by
    unfold unlisted
    have := List.countP_le_length (p := fun i => !(Array.replicate ops.size false).getD i false) (l := List.range ops.toList.length)
    simpa using this)
  intro m S ι' w' fr1 a1 hI hall
  have hqt := hY.quiet (m := m) (d := ops.toList.length - m) (by have := hI.hm; omega) fun k k1 k2 o k3 k4 => by
    have := (hI.stage k o k3 k4).1 (hall k (by have := hI.hm; omega)); omega
  have e : m + (ops.toList.length - m) = ops.toList.length := by have := hI.hm; omega
  rw [e, y3] at hqt
  have hbits : ∀ k, k < ops.toList.length → (2 ^ ops.toList.length - 1).testBit k = true := fun k hk => by rw [Nat.testBit_two_pow_sub_one]; simpa using hk
  have hget : ∀ b ob, (adopt σ.next (2 ^ ops.toList.length - 1) z.low z.all z.σ).get b = some ob → (∃ k, (k, ob) ∈ (Y ops.toList.length).all ∧ b = σ.next + k ∧ (Y m).low.testBit k = false) ∨ (Y m).σ.get b = some ob := by
    intro b ob hb
    rcases adopt_get hb with ⟨k, q1, q2, _, q4⟩ | q
    · exact .inl ⟨k, by rw [y3]; exact q1, q2, by rw [← hqt.2]; exact q4⟩
    · exact .inr (by rw [← hqt.1]; exact q)
  have hnx : (adopt σ.next (2 ^ ops.toList.length - 1) z.low z.all z.σ).next = (Y m).σ.next := by rw [adopt_next, hqt.1]
  have hvoid : Rel P ι' (void σ.next) w' := hI.rel.void hr.base
  have hroom := hI.room
  refine hQ a1 w' ⟨ι', hI.rel.sub (by rw [hnx]; exact hI.rel.base) (fun b ob hb => ?_) (fun b ob hb => ?_), hI.step.mid (Step.refl ι' (void σ.next) w') hvoid (Nat.le_refl _) (by simp; omega) (by rw [hnx]; simp; omega) (by rw [hnx]; exact Nat.le_refl _)
    (fun b _ hh => (void_is hh).elim) (fun b hb hh => ?_) (fun b h1 h2 => by omega), ?_, hI.defers⟩
  · rw [hnx]
    rcases hget b ob hb with ⟨k, q1, rfl, _⟩ | q
    · have := (hY.made (Nat.le_refl _) q1).1.1; omega
    · exact hI.rel.ids b ob q
  · rcases hget b ob hb with ⟨k, q1, rfl, q3⟩ | q
    · exact hI.held k ob q1 (hall k (hY.made (Nat.le_refl _) q1).2) q3
    · exact hI.rel.live b ob q
  · obtain ⟨ob, hob⟩ := hh
    rcases hget b ob hob with ⟨k, _, rfl, _⟩ | q
    · omega
    · exact hI.step.stay b hb ⟨ob, q⟩
  · have hat : ∀ t, fr1.at t = z.fr.at t := by
      intro t
      by_cases hw : ∃ (k : Nat) (o : Oper), ops.toList[k]? = some o ∧ o.dst = some t
      · obtain ⟨k, o, q1, q2⟩ := hw
        rw [hI.fr1 t k o (hall k (List.getElem?_eq_some_iff.1 q1).1) q1 q2, y3]
      · rw [hI.fr2 t fun k o _ q1 q2 => hw ⟨k, o, q1, q2⟩]
        have := hY.after (m := 0) (t := t) (d := ops.toList.length) (by omega) fun k _ _ o q1 q2 => hw ⟨k, o, q1, q2⟩
        rw [Nat.zero_add, y3] at this
        exact this.symm
    refine ⟨?_, fun t => ?_⟩
    · rw [hI.frel.1, hI.nn]
      have := hY.n (Nat.le_refl ops.toList.length)
      rw [y3] at this
      rw [this, y1]
    · rw [← hat]; exact hI.frel.2 t

end draw
end Go.Cx

/-
  CxS: what it is for a 'Rec' to be sound; calls in a region; code, but for ranges over functions.
-/

namespace Go.Cx
variable {P : Program} [Tab P] [TabOk P]

inductive DRel (ι : Emb) : List Nat → List Deferred → Prop where
  | nil : DRel ι [] []
  | cons {m r ms ds} (h : BRel ι m r) (t : DRel ι ms ds) : DRel ι (m :: ms) ({ target := .collected r, args := #[] } :: ds)

theorem DRel.mono {ι ι' : Emb} (h : Le ι ι') {ms : List Nat} {ds : List Deferred} (k : DRel ι ms ds) : DRel ι' ms ds := by
  induction k with
  | nil => exact .nil
  | cons hb _ ih => exact .cons (hb.mono h) ih

def RRel (ι : Emb) : Option Nat → Option Nat → Prop
  | none, none => True
  | some l, some l' => BRel ι l l'
  | _, _ => False

theorem RRel.mono {ι ι' : Emb} (h : Le ι ι') {r r' : Option Nat} (k : RRel ι r r') : RRel ι' r r' := by
  cases r <;> cases r' <;> first | exact k | exact BRel.mono h k

def exitOf : Ex → Exit
  | .normal => .normal
  | .exit id => .exit id
  | .ret => .ret

/-- What code comes to. -/
def Ends (P : Program) [Tab P] (ι : Emb) (σ : Hp) (w : World) (σ' : Hp) (ac' : Ac) (a' : Act) (w' : World) : Prop :=
  ∃ ι', Rel P ι' σ' w' ∧ Step ι σ w ι' σ' w' ∧ FRel ι' ac'.fr a'.tmps ∧ DRel ι' ac'.marks a'.defers

/-- What a call comes to. -/
def Gives (F : Fence) (P : Program) (C : Value → World → Prop) : Result Next → Prop
  | .ok (.value v) w' => C v w'
  | .ok (.enter f args) w' => CallsIn F 0 P f args w' (fun e w'' => ∃ v, e = .returned v ∧ C v w'')
  | .ok (.round l f tmps assign body) w' => RoundIn F 0 P l f tmps assign body w' (fun e w'' => ∃ v, e = .returned v ∧ C v w'')
  | _ => False

theorem Gives.upon {F : Fence} (ho : Opn F) {o : Oper} {a : Act} {C : Value → World → Prop} {r : Result Next} (h : Gives F P C r) {next : Act → World → Prop} {Q : Exit → Act → World → Prop}
    (hn : ∀ v' w', C v' w' → next (a.put o.dst v') w') : o.uponIn F 0 P a next Q r := by
  have hd : F.depth.isSome = true → 1 ≤ 0 := fun h => by rw [ho.depth] at h; cases h
  unfold Gives at h
  split at h
  · exact hn _ _ h
  · exact ⟨hd, CallsIn.mono h fun e w'' ⟨v, he, hc⟩ => by subst he; exact hn _ _ hc⟩
  · exact ⟨hd, RoundIn.mono h fun e w'' ⟨v, he, hc⟩ => by subst he; exact hn _ _ hc⟩
  · exact h.elim

structure CodeSound (P : Program) [Tab P] (code : Option Nat → FuncId → Code → Ac → Hp → Res (Ex × Ac × Hp)) : Prop where
  ok : ∀ {F : Fence}, Opn F → ∀ {round : Option Nat} {fn : FuncId} {c : Code} {ac ac' : Ac} {σ σ' : Hp} {ex : Ex} {ι : Emb} {w : World} {a : Act}, code round fn c ac σ = .ok (ex, ac', σ') →
    Rel P ι σ w → Free ι σ.next → RRel ι round F.round → FRel ι ac.fr a.tmps → DRel ι ac.marks a.defers → ∀ Q, (∀ a' w', Ends P ι σ w σ' ac' a' w' → Q (exitOf ex) a' w') → c.wpIn F 0 P Q a w

structure Sound (P : Program) [Tab P] (R : Rec) : Prop where
  code : CodeSound P R.code
  call : ∀ {F : Fence}, Opn F → ∀ {f : FuncId} {args : List Value} {σ σ' : Hp} {v : Value} {ι : Emb} {w : World} {args' : Array Value}, R.call f args σ = .ok (v, σ') →
    Rel P ι σ w → Free ι σ.next → LRel (VRel ι) args args'.toList → Gives F P (After P ι σ w σ' v) ((callFunc f args').run P w)
  value : ∀ {F : Fence}, Opn F → ∀ {u u' : Value} {args : List Value} {σ σ' : Hp} {v : Value} {ι : Emb} {w : World} {args' : Array Value}, R.value u args σ = .ok (v, σ') →
    Rel P ι σ w → Free ι σ.next → VRel ι u u' → LRel (VRel ι) args args'.toList → ∃ d, (Deferred.ofValue u' args').run P w = .ok d w ∧ Gives F P (After P ι σ w σ' v) ((invoke d.target d.args).run P w)

theorem args_rel {ι : Emb} {fr : Fr} {ρ : Operand → Value} (he : ERel ι fr ρ) (args : Array Operand) : LRel (VRel ι) (args.toList.map (ev fr)) (args.map ρ).toList := by
  rw [Array.toList_map]
  exact LRel.map_same _ _ _ fun x _ => he x

theorem Sound.calls {R : Rec} (hg : Room P) (h : Sound P R) : Calls' P R := by
  refine ⟨fun F ho ι σ σ' w fr o a v hr hfree hfr hop => ?_⟩
  unfold oper at hop
  split at hop
  · rename_i c hc
    have hd : ∀ c, o.op ≠ .defer c := by rw [hc]; intro _ h; cases h
    have he := ERel.of hg hr hfr
    unfold opCall at hop
    split at hop
    · rename_i f hf
      intro next Q hn
      refine ⟨fun g _ => ho.fn g, ?_⟩
      rw [Oper.semAt_eq _ _ _ hd]
      have hx : (execOp a.eval o).run P w = (callFunc f (c.args.map a.eval)).run P w := by
        simp only [execOp, hc, resolve, hf, Deferred.ofValue, Act.eval, Sem.run_bind, Sem.run_pure, Result.andThen, invoke]
        simp
      rw [hx]
      exact (h.call ho hop hr hfree (args_rel he _)).upon ho hn
    · rename_i f hnf hf
      obtain ⟨d, h1, h2⟩ := h.value ho hop hr hfree (he f) (args_rel he c.args)
      intro next Q hn
      refine ⟨fun g _ => ho.fn g, ?_⟩
      rw [Oper.semAt_eq _ _ _ hd]
      have hx : (execOp a.eval o).run P w = (invoke d.target d.args).run P w := by
        simp only [execOp, hc, resolve, hf, Sem.run_bind, h1, Result.andThen]
      rw [hx]
      exact h2.upon ho hn
    · cases hop
    · exact plain_does ho hg hr (hfree.fresh _) hfr hop
  · exact plain_does ho hg hr (hfree.fresh _) hfr hop

theorem least {p : Nat → Prop} (h : ∃ k, p k) : ∃ k, p k ∧ ∀ j, p j → k ≤ j := by
  obtain ⟨k, hk⟩ := h
  induction k using Nat.strongRecOn with
  | _ k ih =>
    by_cases hj : ∃ j, j < k ∧ p j
    · obtain ⟨j, h1, h2⟩ := hj; exact ih j h1 h2
    · refine ⟨k, hk, fun j hpj => ?_⟩
      by_cases hlt : j < k
      · exact absurd ⟨j, hlt, hpj⟩ hj
      · omega

theorem wpIn_loop_nat {F : Fence} {n : Nat} {c : Code} {Q : Exit → Act → World → Prop} (I : Nat → Act → World → Prop) {k : Nat} {a : Act} {w : World} (h0 : I k a w)
    (round : ∀ k a w, I k a w → c.wpIn F n P (Exit.then (fun a' w' => ∃ j, j < k ∧ I j a' w') Q) a w) : (Code.loop c).wpIn F n P Q a w := by
  classical
  let μ : Act → World → Nat := fun a w => if h : ∃ k, I k a w then (least h).choose else 0
  have hμ : ∀ a w (h : ∃ k, I k a w), I (μ a w) a w ∧ ∀ j, I j a w → μ a w ≤ j := by
    intro a w h
    simp only [μ, h, dif_pos]
    exact (least h).choose_spec
  refine wpIn_loop (fun a w => ∃ k, I k a w) μ ⟨k, h0⟩ fun a w h => ?_
  refine wpIn_mono (round _ a w (hμ a w h).1) fun e a' w' he => ?_
  cases e with
  | normal =>
    obtain ⟨j, hj, hi⟩ := he
    exact ⟨⟨j, hi⟩, Nat.lt_of_le_of_lt ((hμ a' w' ⟨j, hi⟩).2 j hi) hj⟩
  | _ => exact he

theorem Ends.of_trans {ι ι₁ : Emb} {σ σ₁ σ' : Hp} {w w₁ : World} {ac' : Ac} {a' : Act} {w' : World} (hr₁ : Rel P ι₁ σ₁ w₁) (h : Step ι σ w ι₁ σ₁ w₁) (k : Ends P ι₁ σ₁ w₁ σ' ac' a' w') : Ends P ι σ w σ' ac' a' w' := by
  obtain ⟨ι', h1, h2, h3, h4⟩ := k
  exact ⟨ι', h1, h.trans hr₁ h2, h3, h4⟩

end Go.Cx
