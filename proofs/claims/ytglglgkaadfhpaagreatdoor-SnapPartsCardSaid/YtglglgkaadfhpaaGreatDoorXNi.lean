/-
  CxNi: Tipset of a key that is not the root's name: what comes.
-/
import Derived.Test.YtglglgkaadfhpaaGreatDoorXNg
import Derived.Test.YtglglgkaadfhpaaGreatDoorXNh
set_option linter.all false
namespace Go.Cx
open Go.Proofs
set_option maxRecDepth 100000

theorem env_partsN (nm : Nat → Option Value) (l : List Fact) (p : Parts) (hl : ∀ x ∈ l, FactOk Tryz.prog nm x) (hp : PartsOk Tryz.prog nm p) : @Env Tryz.prog (mkTab Tryz.prog nm l p) (told []) :=
  @env_told (mkTab Tryz.prog nm l p) (mkTab_ok hl hp) [] (fun x h => by simp at h)

def rootS : ByteArray := ⟨rootB.toArray⟩

def idA (q : ByteArray) (i : Nat) : ByteArray := ⟨(idB q i).toArray⟩

theorem idA_size {q : ByteArray} {j : Nat} (h : q.size = 32 * j) {i : Nat} (hi : i < j) : (idA q i).size = 32 := by
  have := idB_len h hi
  unfold idA
  show (idB q i).toArray.size = 32
  simpa using this

theorem idA_inj {q : ByteArray} {i k : Nat} (h : idB q i = idB q k) : idA q i = idA q k := by unfold idA; rw [h]

theorem ordFail_ok {p i k : Nat} {c c' : Int} (h : ordFail p c i k = some c') : k = i + 1 ∧ ((k < p ∧ c' = -1) ∨ (k = p ∧ c' = c)) := by
  unfold ordFail at h
  split at h
  · rename_i hk
    have hk : k = i + 1 := by simpa using hk
    refine ⟨hk, ?_⟩
    split at h
    · rename_i hp
      rw [Nat.blt_eq] at hp
      cases h
      exact .inl ⟨hp, rfl⟩
    · split at h
      · rename_i hp
        cases h
        exact .inr ⟨by simpa using hp, rfl⟩
      · cases h
  · cases h

theorem ordRise_ok {i k : Nat} {c : Int} (h : ordRise i k = some c) : (i < k ∧ c = -1) ∨ (k < i ∧ c = 1) := by
  unfold ordRise at h
  split at h
  · rename_i hp
    rw [Nat.blt_eq] at hp
    cases h
    exact .inl ⟨hp, rfl⟩
  · split at h
    · rename_i hp
      rw [Nat.blt_eq] at hp
      cases h
      exact .inr ⟨hp, rfl⟩
    · cases h

theorem bef_all {q : ByteArray} {j : Nat} (h : ∀ i, i + 1 < j → Bef (idA q i) (idA q (i + 1))) : ∀ d i, i + d + 1 < j → Bef (idA q i) (idA q (i + d + 1))
  | 0, i, hi => h i hi
  | d + 1, i, hi => (bef_all h d i (by omega)).trans (h (i + d + 1) (by omega))

theorem all_rise : ((List.range 6).all fun j => (List.range 6).all fun i => !(Nat.blt 1 j && Nat.blt i j) || decide ((j, some i) ∈ riseCases)) = true := by decide
theorem all_fail : ((List.range 6).all fun j => (List.range 6).all fun p => !(Nat.blt p j && Nat.ble 1 p) || decide ((j, p) ∈ failCases)) = true := by decide
theorem mem_rise0 : ∀ j, j < 6 → (0 < j → (j, none) ∈ riseCases) := by decide

theorem blt_of {a b : Nat} (h : a < b) : Nat.blt a b = true := by rw [Nat.blt_eq]; exact h

theorem mem_rise (j : Nat) (hj : j < 6) (i : Nat) (hi : i < 6) (h : 1 < j ∧ i < j) : (j, some i) ∈ riseCases := by
  have := List.all_eq_true.1 (List.all_eq_true.1 all_rise j (List.mem_range.2 hj)) i (List.mem_range.2 hi)
  rw [blt_of h.1, blt_of h.2] at this
  exact of_decide_eq_true this

theorem mem_fail (j : Nat) (hj : j < 6) (p : Nat) (hp : p < 6) (h : p < j ∧ 1 ≤ p) : (j, p) ∈ failCases := by
  have := List.all_eq_true.1 (List.all_eq_true.1 all_fail j (List.mem_range.2 hj)) p (List.mem_range.2 hp)
  rw [blt_of h.1, ble_yes h.2] at this
  exact of_decide_eq_true this

/-- A key of whole names: how it ends. -/
theorem key_case {q : ByteArray} {j : Nat} (hs : q.size = 32 * j) (h0 : 0 < j) (h5 : j ≤ 5) (hne : q ≠ rootS) :
    ∃ (e : Int) (r : Option Nat) (rise : Bool) (ord : Nat → Nat → Option Int), (e = 1 ∨ e = 7) ∧ QOk q j r rise ord ∧ runQ (nmQ q) j r rise ord = some (errV e) := by
  by_cases hall : ∀ i, i + 1 < j → Bef (idA q i) (idA q (i + 1))
  · -- they rise
    have hb : ∀ i k, i < k → k < j → Bef (idA q i) (idA q k) := fun i k h1 h2 => by
      obtain ⟨d, rfl⟩ : ∃ d, k = i + d + 1 := ⟨k - i - 1, by omega⟩
      exact bef_all hall d i h2
    have hdiff : ∀ i k, i < j → k < j → i ≠ k → idB q i ≠ idB q k := by
      intro i k h1 h2 h3 he
      rcases Nat.lt_or_gt_of_ne h3 with h | h
      · exact (hb i k h h2).ne (idA_inj he)
      · exact (hb k i h h1).ne (idA_inj he.symm)
    have hord : ∀ i k c, i < j → k < j → ordRise i k = some c → Extern.BytealgCompare.cmp ⟨(idB q i).toArray⟩ ⟨(idB q k).toArray⟩ = c := by
      intro i k c h1 h2 h3
      rcases ordRise_ok h3 with ⟨h, rfl⟩ | ⟨h, rfl⟩
      · exact cmp_bef (hb i k h h2)
      · exact cmp_aft (hb k i h h1)
    have run : ∀ r, (j, r) ∈ riseCases → runQ (nmQ q) j r true ordRise = some (errV 7) := fun r hr => isSome_ok (List.all_eq_true.1 (runs_rise (nmQ q)) (j, r) hr)
    by_cases hr : ∃ i, i < j ∧ idB q i = rootB
    · obtain ⟨i, hi, he⟩ := hr
      refine ⟨7, some i, true, ordRise, .inr rfl, ⟨hs, h5, fun k hk => (by cases hk; exact he), fun _ k hk hne2 e => hdiff k i hk hi (fun h => hne2 (by rw [h])) (e.trans he.symm), fun _ => hdiff, hord⟩, run _ ?_⟩
      have h1 : ¬ (j = 1) := by
        intro h1
        subst h1
        have hi0 : i = 0 := by omega
        subst hi0
        apply hne
        have hl : q.data.toList.length = 32 := by
          have : q.data.toList.length = q.size := by simp
          rw [this, hs]
        have : idB q 0 = q.data.toList := by
          unfold idB
          rw [Nat.mul_zero, List.drop_zero, List.take_of_length_le (by omega)]
        rw [this] at he
        unfold rootS
        rw [← he]
      exact mem_rise j (by omega) i (by omega) ⟨by omega, hi⟩
    · refine ⟨7, none, true, ordRise, .inr rfl, ⟨hs, h5, fun k hk => (by cases hk), fun _ k hk _ e => hr ⟨k, hk, e⟩, fun _ => hdiff, hord⟩, run _ ?_⟩
      exact mem_rise0 j (by omega) h0
  · -- they don't
    have : ∃ p, (1 ≤ p ∧ p < j ∧ ¬ Bef (idA q (p - 1)) (idA q p)) := by
      apply Classical.byContradiction
      intro hn
      apply hall
      intro i hi
      apply Classical.byContradiction
      intro hb
      exact hn ⟨i + 1, by omega, hi, by rw [Nat.add_sub_cancel]; exact hb⟩
    obtain ⟨p, ⟨hp1, hp2, hp3⟩, hmin⟩ := least this
    have hbef : ∀ i, i + 1 < p → Bef (idA q i) (idA q (i + 1)) := by
      intro i hi
      apply Classical.byContradiction
      intro hb
      have := hmin (i + 1) ⟨by omega, by omega, by rw [Nat.add_sub_cancel]; exact hb⟩
      omega
    have run := List.all_eq_true.1 (runs_fail (nmQ q)) (j, p) (mem_fail j (by omega) p (by omega) ⟨hp2, hp1⟩)
    simp only [Bool.and_eq_true] at run
    have hq : ∀ c, Extern.BytealgCompare.cmp (idA q (p - 1)) (idA q p) = c → QOk q j none false (ordFail p c) := by
      intro c hc
      refine ⟨hs, h5, fun k hk => (by cases hk), fun h => (by cases h), fun h => (by cases h), fun i k c' h1 h2 h3 => ?_⟩
      obtain ⟨rfl, h4⟩ := ordFail_ok h3
      rcases h4 with ⟨h4, rfl⟩ | ⟨h4, rfl⟩
      · exact cmp_bef (hbef i h4)
      · subst h4
        rw [Nat.add_sub_cancel] at hc
        exact hc
    rcases cmp_three (idA q (p - 1)) (idA q p) (by rw [idA_size hs (by omega), idA_size hs hp2]) with ⟨h, _⟩ | h | h
    · exact absurd h hp3
    · exact ⟨1, none, false, ordFail p 0, .inl rfl, hq 0 h, isSome_ok run.1⟩
    · exact ⟨1, none, false, ordFail p 1, .inl rfl, hq 1 h, isSome_ok run.2⟩

/-! ### On the dag -/
def below (N : Nat) : Value → Bool
  | .map (some r) => Nat.blt r N
  | v => flat 8 v

theorem below_cut {N : Nat} {ι : Emb} {v v' : Value} (h : below N v = true) (k : VRel ι v v') : VRel (cut ι N) v v' := by
  have hfl : flat 8 v = true → VRel (cut ι N) v v' := fun hf => by
    have := flat_eq 8 hf k
    subst this
    exact flat_refl _ 8 _ hf
  cases v with
  | map r =>
    cases r with
    | none => exact hfl rfl
    | some r =>
      have hlt : r < N := by
        unfold below at h
        rw [Nat.blt_eq] at h
        exact h
      cases k with
      | map hb => exact .map (by unfold BRel at hb ⊢; simpa [cut, hlt] using hb)
  | _ => exact hfl (by simpa [below] using h)

theorem dag_held {T1 : Tab Tryz.prog} {ι : Emb} {σ : Hp} {w : World} (hr : @Rel Tryz.prog T1 ι σ w) (hp : ∀ y ∈ dagPart, σ.get y.1 = some y.2) : ∀ b o, (b, o) ∈ dagPart → ∃ s, ι b = .live s ∧ ∃ o', w.heap[s.x]? = some o' ∧ ORel Tryz.prog (cut ι 1062) s o o' := by
  intro b o hbo
  obtain ⟨s, h1, o', h2, h3⟩ := @Rel.live Tryz.prog T1 _ _ _ hr b o (hp _ hbo)
  refine ⟨s, h1, o', h2, ?_⟩
  unfold dagPart at hbo
  simp only [List.mem_cons, Prod.mk.injEq, List.not_mem_nil, or_false] at hbo
  rcases hbo with ⟨rfl, rfl⟩ | ⟨rfl, rfl⟩
  · unfold row at h3 ⊢
    cases h3 with
    | cells hg hc =>
      refine .cells hg fun i hi v hv => ?_
      obtain ⟨v', h4, h5⟩ := hc i hi v hv
      refine ⟨v', h4, below_cut ?_ h5⟩
      rw [Tr.get_fill] at hv
      simp only [Nat.zero_le, if_true, Nat.sub_zero] at hv
      have hi : i < 2 := hi
      rcases i with _ | _ | i
      · simp at hv; subst hv; rfl
      · simp at hv; subst hv; rfl
      · omega
  · cases h3 with
    | map hsz hm =>
      refine .map hsz fun i x y hx hy => ?_
      obtain ⟨h4, h5, h6⟩ := hm i x y hx hy
      have hi : i = 0 := by
        have := (Array.getElem?_eq_some_iff.1 hx).1
        simp at this
        exact this
      subst hi
      simp at hx
      subst hx
      exact ⟨below_cut rfl h4, below_cut rfl h5, h6⟩

theorem key_good0 (T1 : Tab Tryz.prog) (nm0 : Nat → Option Value) (l : List Fact) (p : Parts) (hl : ∀ x ∈ l, FactOk Tryz.prog nm0 x) (hp : PartsOk Tryz.prog nm0 p) {q : ByteArray} {e : Int} (hnm : ∀ b v, nm0 b = some v → @Tab.nm Tryz.prog T1 b = some v ∧ b < 1000)
    (h60 : @Tab.nm Tryz.prog T1 60 = some (.string q)) (hrun : seen dagPart ((@go Tryz.prog (mkTab Tryz.prog nm0 l p) (told []) 100000).call 96 keyArgs (hpOf 1062 dagPart)) = some (errV e)) (h50 : @Tab.nm Tryz.prog T1 50 = some (.int .i64 e)) :
    @Good Tryz.prog T1 ⟨96, keyArgs, dagPart, .tuple #[.agg #[.slice none 0 0], .chan (some 50)]⟩ := by
  intro F ho σ ι w args' hpart hr hfree ha
  obtain ⟨σ', h1, h2⟩ := seen_ok hrun
  have hok := mkTab_ok hl hp
  have henv := env_partsN nm0 l p hl hp
  have hnx := hpOf_next 1062 dagPart
  have hgetp : ∀ b o, (hpOf 1062 dagPart).get b = some o → (b, o) ∈ dagPart := fun b o h => hpOf_get 1062 h
  have hids : ∀ b o, (b, o) ∈ dagPart → b < 1062 := by
    intro b o hbo
    unfold dagPart at hbo
    simp only [List.mem_cons, Prod.mk.injEq, List.not_mem_nil, or_false] at hbo
    omega
  refine (sub_run T1 (mkTab Tryz.prog nm0 l p) hok henv ho h1 (fun b o h => ?_) rfl (fun b o h => h2 _ (hgetp b o h)) (fun b o h => hpart _ (hgetp b o h)) hr (Rel.part T1 _ hr (fun b v h => ⟨(hnm b v h).1, ?_⟩) ?_ (fun b o h => ?_) fun b o h => ?_) ?_).mono ?_
  · have := hgetp b o h
    unfold dagPart at this
    simp only [List.mem_cons, Prod.mk.injEq, List.not_mem_nil, or_false] at this
    rcases this with ⟨_, rfl⟩ | ⟨_, rfl⟩ <;> rfl
  · have := (hnm b v h).2
    rw [hnx]; omega
  · rw [hnx, gsize]; decide
  · rw [hnx]; exact hids b o (hgetp b o h)
  · rw [hnx]; exact dag_held hr hpart b o (hgetp b o h)
  · rw [hnx]
    have ha' := ha
    generalize args'.toList = l at ha'
    unfold keyArgs at ha'
    cases ha' with
    | cons k1 t1 => cases t1 with
      | cons k2 t2 => cases t2 with
        | nil =>
          refine .cons ?_ (.cons ?_ .nil)
          · cases k1 with
            | ptr hp => exact .ptr (by unfold ARel at hp ⊢; simpa [cut] using hp)
          · have hι := @Rel.names Tryz.prog T1 _ _ _ hr 60 _ h60
            have := VRel.chan_eq hι k2
            subst this
            exact .sym 60 ⟨by simp [cut, hι], rfl⟩
  · rintro v' w' ⟨ι', q1, q2, q3⟩
    refine ⟨ι', q1, q2, ?_⟩
    have := flat_eq 8 (by rfl) q3
    subst this
    exact VRel.tuple_list (xs := [.agg #[.slice none 0 0], .chan (some 50)]) (ys := [.agg #[.slice none 0 0], .int .i64 e]) (.cons (flat_refl ι' 8 _ rfl) (.cons (.sym 50 ⟨@Rel.names Tryz.prog T1 _ _ _ q1 50 _ h50, rfl⟩) .nil))

/-! ### Keys of another length -/
def nmS (q : ByteArray) : List (Nat × Value) := [(60, .string q), (70, .int .i64 (Int.ofNat q.size)), (71, .int .i64 (Int.ofNat (q.size % 32)))]

def lS : List Fact := [⟨.len 9, [.chan (some 60)], .chan (some 70)⟩, ⟨.bin .rem 3, [.chan (some 70), .int .i64 32], .chan (some 71)⟩, ⟨.bin .neq 3, [.chan (some 71), .int .i64 0], .bool true⟩]

theorem lS_ok {q : ByteArray} (h : q.size % 32 ≠ 0) : ∀ x ∈ lS, FactOk Tryz.prog (nmOf (nmS q)) x := by
  intro x hx
  unfold lS at hx
  simp only [List.mem_cons, List.not_mem_nil, or_false] at hx
  rcases hx with rfl | rfl | rfl
  · exact fact_len (.inl ⟨60, rfl, rfl⟩) (.inl ⟨70, rfl, rfl⟩)
  · exact fact_ii (.inl ⟨70, rfl, rfl⟩) (.inr ⟨rfl, rfl⟩) (.inl ⟨71, rfl, rfl⟩) ⟨by decide, by decide⟩ rfl rfl
  · refine fact_ii (.inl ⟨71, rfl, rfl⟩) (.inr ⟨rfl, rfl⟩) (.inr ⟨rfl, rfl⟩) ⟨by decide, by decide⟩ ?_ rfl
    have : binInt .neq .i64 (Int.ofNat (q.size % 32)) 0 = some (.bool (Int.ofNat (q.size % 32) != 0)) := rfl
    rw [this]
    have e : (Int.ofNat (q.size % 32) != 0) = true := by
      rw [bne_iff_ne]
      intro e
      have e2 : ((q.size % 32 : Nat) : Int) = 0 := e
      exact h (by omega)
    rw [e]

def lZ : List Fact := [⟨.len 9, [.chan (some 60)], .int .i64 0⟩]

theorem lZ_ok {q : ByteArray} (h : q.size = 0) : ∀ x ∈ lZ, FactOk Tryz.prog (nmOf (nmS q)) x := by
  intro x hx
  unfold lZ at hx
  simp only [List.mem_cons, List.not_mem_nil, or_false] at hx
  subst hx
  exact fact_len (.inl ⟨60, rfl, rfl⟩) (.inr ⟨rfl, by rw [h]; rfl⟩)

theorem runS_other (nm : Nat → Option Value) : (isSome (errV 1) (seen dagPart ((@go Tryz.prog (factTab Tryz.prog nm lS) (told []) 100000).call 96 keyArgs (hpOf 1062 dagPart))) &&
    isSome (errV 1) (seen dagPart ((@go Tryz.prog (factTab Tryz.prog nm lZ) (told []) 100000).call 96 keyArgs (hpOf 1062 dagPart)))) = true := by kernel_rfl

/-- The names that a key's run needs. -/
def KeyNames (q : ByteArray) (nm : Nat → Option Value) : Prop := (∀ b v, nmQ q b = some v → nm b = some v) ∧ nm 70 = some (.int .i64 (Int.ofNat q.size)) ∧ nm 71 = some (.int .i64 (Int.ofNat (q.size % 32)))

/-- A key that is not the root's name. -/
theorem key_known {q : ByteArray} (hs : q.size ≤ 160) (hne : q ≠ rootS) : ∃ e : Int, (e = 1 ∨ e = 7) ∧ ∀ T1 : Tab Tryz.prog, KeyNames q (@Tab.nm Tryz.prog T1) → @Tab.nm Tryz.prog T1 50 = some (.int .i64 e) →
    @Good Tryz.prog T1 ⟨96, keyArgs, dagPart, .tuple #[.agg #[.slice none 0 0], .chan (some 50)]⟩ := by
  have h60 : ∀ nm : Nat → Option Value, KeyNames q nm → nm 60 = some (.string q) := by
    intro nm h
    have := h.1 60 _ (nmQ_text q (i := 0) (by omega))
    rw [this, Nat.mul_zero, ByteArray.extract_zero_size]
  have hSn : ∀ nm : Nat → Option Value, KeyNames q nm → ∀ b v, nmOf (nmS q) b = some v → nm b = some v ∧ b < 1000 := by
    intro nm h b v hb
    have := nmOf_mem hb
    unfold nmS at this
    simp only [List.mem_cons, Prod.mk.injEq, List.not_mem_nil, or_false] at this
    rcases this with ⟨rfl, rfl⟩ | ⟨rfl, rfl⟩ | ⟨rfl, rfl⟩
    · exact ⟨h60 nm h, by decide⟩
    · exact ⟨h.2.1, by decide⟩
    · exact ⟨h.2.2, by decide⟩
  have run := runS_other (nmOf (nmS q))
  simp only [Bool.and_eq_true] at run
  by_cases h32 : q.size % 32 = 0
  · by_cases h0 : q.size = 0
    · exact ⟨1, .inl rfl, fun T1 hk h50 => key_good0 T1 (nmOf (nmS q)) lZ noParts (lZ_ok h0) (noParts_ok _ _) (hSn _ hk) (h60 _ hk) (isSome_ok run.2) h50⟩
    · obtain ⟨j, hj⟩ : ∃ j, q.size = 32 * j := ⟨q.size / 32, by omega⟩
      obtain ⟨e, r, rise, ord, he, hQ, hrun⟩ := key_case hj (by omega) (by omega) hne
      exact ⟨e, he, fun T1 hk h50 => key_good0 T1 (nmQ q) (lQ j) (qParts j r rise ord) (lQ_ok hQ (by omega)) (qParts_ok hQ) (fun b v h => ⟨hk.1 b v h, by have := nmQ_range q b v h; omega⟩) (h60 _ hk) hrun h50⟩
  · exact ⟨1, .inl rfl, fun T1 hk h50 => key_good0 T1 (nmOf (nmS q)) lS noParts (lS_ok h32) (noParts_ok _ _) (hSn _ hk) (h60 _ hk) (isSome_ok run.1) h50⟩

end Go.Cx
