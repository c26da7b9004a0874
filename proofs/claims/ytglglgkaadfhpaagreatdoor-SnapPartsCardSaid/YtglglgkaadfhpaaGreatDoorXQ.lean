/-
  CxQ: operations, third part: addresses, slices of slices, what is nil, interfaces, functions.
-/
import Derived.Test.YtglglgkaadfhpaaGreatDoorXP
set_option linter.all false
namespace Go.Cx
variable {P : Program} [Tab P] {ι : Emb} {σ σ' : Hp} {w : World}

theorem prun_boundsPanic {α : Type} {k : IntKind} {x y : Int} {c : BoundsCode} : prun P (boundsPanic k x y c : Sem α) = none := by
  unfold boundsPanic
  split <;> simp [runtimePanic, prun_bind, Functor.map]

theorem ARel.add {a a' : Addr} (h : ARel ι a a') (n : Nat) : ARel ι (a.add n) (a'.add n) := by
  unfold ARel at *
  by_cases hn : n = 0
  · subst hn; simpa [Addr.add] using h
  · simp only [Addr.add, hn, if_false]
    cases hb : ι a.block with
    | unborn => simp [hb] at h
    | live s => simp only [hb] at h ⊢; subst h; rfl
    | dead => trivial
    | val u => simp [hb] at h

theorem add_block (a : Addr) (n : Nat) : (a.add n).block = a.block := by unfold Addr.add; split <;> rfl

theorem VRel.asAddr {x x' : Value} (h : VRel ι x x') {a : Addr} (hx : prun P (Instr.sureAddr x) = some a) : ∃ a', x' = .pointer (some a') ∧ x = .pointer (some a) ∧ ARel ι a a' := by
  cases h <;> simp only [Instr.sureAddr, Cx.unk, symv, prun_stuck, prun_pure, reduceCtorEq, Option.some.injEq] at hx
  subst hx
  rename_i ha
  exact ⟨_, rfl, rfl, ha⟩

theorem prun_partAt {a : Addr} {c b : Nat} : prun P (partAt a c b) = none := by
  unfold partAt byteOf
  simp [prun_bind, shape, prun]

theorem fieldAt_rel {s : TypeId} {f : Nat} {x x' v : Value} (hx : VRel ι x x') (h : prun P (Instr.fieldAt s x f) = some v) : ∃ v', prun P (Instr.fieldAt s x' f) = some v' ∧ VRel ι v v' := by
  unfold Instr.fieldAt at h ⊢
  simp only [prun_bind, prun_underlying] at h ⊢
  cases hu : P.underlying s with
  | none => simp [hu] at h
  | some d =>
    simp only [hu, Option.bind_some] at h ⊢
    cases d <;> simp only [prun_stuck, reduceCtorEq] at h ⊢
    case struct fields =>
      cases hf : fields[f]? with
      | none => simp [hf] at h
      | some fd =>
        simp only [hf, prun_bind] at h ⊢
        cases ha : prun P (Instr.sureAddr x) with
        | none => simp [ha] at h
        | some a =>
          obtain ⟨a', rfl, rfl, har⟩ := hx.asAddr ha
          simp only [Instr.sureAddr, prun_pure, Option.bind_some, fieldPlace, prun_bind, prun_sizeOf] at h ⊢
          cases hs : (P.info? fd.type).map (·.size) with
          | none => simp [hs] at h
          | some n =>
            simp only [hs, Option.bind_some] at h ⊢
            by_cases hn : n = 0
            · simp [hn, prun_partAt] at h
            · simp only [hn, if_false, prun_pure, Option.bind_some, Option.some.injEq] at h ⊢
              subst h
              exact ⟨_, rfl, .ptr (har.add _)⟩

theorem VRel.asInt {x x' : Value} (h : VRel ι x x') {k : IntKind} {n : Int} (hx : prun P (asIntOf x) = some (k, n)) : x' = .int k n ∧ x = .int k n := by
  cases h <;> simp only [asIntOf, Cx.unk, symv, prun_stuck, prun_unsupported, prun_pure, reduceCtorEq, Option.some.injEq, Prod.mk.injEq] at hx
  obtain ⟨rfl, rfl⟩ := hx
  exact ⟨rfl, rfl⟩

theorem indexAt_rel {t : TypeId} {x x' i i' v : Value} (hx : VRel ι x x') (hi : VRel ι i i') (h : prun P (Instr.indexAt t x i) = some v) : ∃ v', prun P (Instr.indexAt t x' i') = some v' ∧ VRel ι v v' := by
  unfold Instr.indexAt at h ⊢
  simp only [prun_bind] at h ⊢
  cases hk : prun P (asIntOf i) with
  | none => simp [hk] at h
  | some kn =>
    obtain ⟨k, n⟩ := kn
    obtain ⟨rfl, rfl⟩ := hi.asInt hk
    simp only [asIntOf, prun_pure, Option.bind_some, prun_underlying] at h ⊢
    cases hu : P.underlying t with
    | none => simp [hu] at h
    | some d =>
      simp only [hu, Option.bind_some] at h ⊢
      have fin : ∀ (len elem : Nat) (b b' : Option Addr) (q : Bool), (∀ a, b = some a → ∃ a', b' = some a' ∧ ARel ι a a') →
          (prun P (match b with
            | some a => if 0 ≤ n ∧ n < (len : Int) then do pure (Value.pointer (some (a.add (n.toNat * (← sizeOf elem))))) else if q = true then unsupported (.noEntry "op/indexAddr.an index out of range at an array of length 0 or 1 (ledger 616)") else boundsPanic k n len .index
            | none => boundsPanic k n 0 .index) = some v) →
          ∃ v', prun P (match b' with
            | some a => if 0 ≤ n ∧ n < (len : Int) then do pure (Value.pointer (some (a.add (n.toNat * (← sizeOf elem))))) else if q = true then unsupported (.noEntry "op/indexAddr.an index out of range at an array of length 0 or 1 (ledger 616)") else boundsPanic k n len .index
            | none => boundsPanic k n 0 .index) = some v' ∧ VRel ι v v' := by
        intro len elem b b' q hb hp
        cases b with
        | none => simp [prun_boundsPanic] at hp
        | some a =>
          obtain ⟨a', rfl, ha⟩ := hb a rfl
          simp only at hp ⊢
          split at hp
          · rename_i hc
            rw [if_pos hc]
            simp only [prun_bind, prun_sizeOf] at hp ⊢
            cases hs : (P.info? elem).map (·.size) with
            | none => simp [hs] at hp
            | some size =>
              simp only [hs, Option.bind_some, prun_pure, Option.some.injEq] at hp ⊢
              subst hp
              exact ⟨_, rfl, .ptr (ha.add _)⟩
          · split at hp <;> simp [prun_boundsPanic] at hp
      cases d
      case array len elem =>
        simp only [prun_bind] at h ⊢
        cases ha : prun P (Instr.sureAddr x) with
        | none => simp [ha] at h
        | some a =>
          obtain ⟨a', rfl, rfl, har⟩ := hx.asAddr ha
          simp only [Instr.sureAddr, prun_pure, Option.bind_some, prun_underlying, hu] at h ⊢
          exact fin len elem (some a) (some a') _ (fun _ e => by cases e; exact ⟨a', rfl, har⟩) h
      case slice elem =>
        cases hx with
        | slnil l c => simp [prun_boundsPanic, prun_bind] at h
        | @sl a a' l c c' ha hc =>
          simp only [prun_pure, Option.bind_some, prun_bind, prun_underlying, hu] at h ⊢
          exact fin l elem (some a) (some a') _ (fun _ e => by cases e; exact ⟨a', rfl, ha⟩) h
        | _ => simp [Cx.unk, symv, prun_bind] at h
      all_goals (rw [prun_bind] at h; simp at h)

def sb (x : Value) (y : Nat) : Option Nat :=
  match x with
  | .int _ i => if 0 ≤ i ∧ i ≤ (y : Int) then some i.toNat else none
  | _ => none

theorem prun_sliceBound (x : Value) (y : Nat) (c : BoundsCode) : prun P (Instr.sliceBound x y c) = sb x y := by
  unfold Instr.sliceBound
  rw [prun_bind]
  cases x with
  | int k i =>
    simp only [asIntOf, prun_pure, Option.bind_some, sb]
    split
    · rfl
    · exact prun_boundsPanic
  | pointer a => cases a <;> rfl
  | _ => rfl

def bm (cap : Nat) : Option Value → Option Nat
  | some v => sb v cap
  | none => some cap
def bh (len m : Nat) : Option Value → Option Value → Option Nat
  | some v, _ => sb v m
  | none, none => some len
  | none, some _ => none
def bl (h : Nat) : Option Value → Option Nat
  | some v => sb v h
  | none => some 0

def bnds (len cap : Nat) (lo hi mx : Option Value) : Option (Nat × Nat × Nat) :=
  (bm cap mx).bind fun m => (bh len m hi mx).bind fun h => (bl h lo).bind fun l => some (l, h, m)

theorem prun_sliceBounds (isS : Bool) (len cap : Nat) (lo hi mx : Option Value) : prun P (Instr.sliceBounds isS len cap lo hi mx) = bnds len cap lo hi mx := by
  unfold Instr.sliceBounds bnds
  cases mx <;> cases hi <;> cases lo <;> simp only [bm, bh, bl, prun_bind, prun_sliceBound, prun_pure, prun_stuck, Option.bind_some, Option.bind_none] <;>
    first
      | rfl
      | (congr 1; done)
      | (cases sb _ _ <;> simp only [Option.bind_none, Option.bind_some] <;> first | rfl | (cases sb _ _ <;> rfl))

inductive OvRel (ι : Emb) : Option Value → Option Value → Prop where
  | no : OvRel ι none none
  | yes {v v'} (h : VRel ι v v') : OvRel ι (Option.some v) (Option.some v')

theorem sb_rel {v v' : Value} (h : VRel ι v v') {y y' n : Nat} (hy : y ≤ y') (hs : sb v y = some n) : n ≤ y ∧ sb v' y' = some n := by
  unfold sb at hs
  split at hs
  · rename_i k i
    cases h
    split at hs
    · rename_i hc
      cases hs
      have : 0 ≤ i ∧ i ≤ (y' : Int) := by omega
      exact ⟨by omega, by simp [sb, this]⟩
    · cases hs
  · cases hs

theorem bnds_rel {len cap cap' : Nat} {lo hi mx lo' hi' mx' : Option Value} (hl : OvRel ι lo lo') (hh : OvRel ι hi hi') (hm : OvRel ι mx mx') (hcap : cap ≤ cap') (hlc : len ≤ cap)
    {l h m : Nat} (hp : bnds len cap lo hi mx = some (l, h, m)) :
    l ≤ h ∧ h ≤ m ∧ m ≤ cap ∧ (mx = none → m = cap) ∧ ∃ m', bnds len cap' lo' hi' mx' = some (l, h, m') ∧ (mx = none → m' = cap') ∧ (mx ≠ none → m' = m) := by
  unfold bnds at hp ⊢
  obtain ⟨m0, e1, hp⟩ := Option.bind_eq_some_iff.1 hp
  obtain ⟨h0, e2, hp⟩ := Option.bind_eq_some_iff.1 hp
  obtain ⟨l0, e3, hp⟩ := Option.bind_eq_some_iff.1 hp
  cases hp
  have c3 : l ≤ h ∧ bl h lo' = some l := by
    cases hl with
    | no => simp [bl] at e3; subst e3; exact ⟨Nat.zero_le _, rfl⟩
    | yes hv => exact sb_rel hv (Nat.le_refl _) e3
  cases hm with
  | no =>
    simp only [bm, Option.some.injEq] at e1
    subst e1
    have c2 : h ≤ cap ∧ bh len cap' hi' none = some h := by
      cases hh with
      | no => simp [bh] at e2; subst e2; exact ⟨hlc, rfl⟩
      | yes hv => exact sb_rel hv hcap e2
    exact ⟨c3.1, c2.1, Nat.le_refl _, fun _ => rfl, cap', by simp only [bm, Option.bind_some, c2.2, c3.2], fun _ => rfl, fun h => absurd rfl h⟩
  | yes hm =>
    obtain ⟨d1, d2⟩ := sb_rel hm hcap e1
    cases hh with
    | no => simp [bh] at e2
    | yes hv =>
      obtain ⟨d3, d4⟩ := sb_rel hv (Nat.le_refl _) e2
      exact ⟨c3.1, d3, d1, fun h => (by cases h), m, by simp only [bm, bh, d2, Option.bind_some, d4, c3.2], fun h => (by cases h), fun _ => rfl⟩

theorem slice_ok (hr : Rel P ι σ w) {t : TypeId} {x x' v : Value} {lo hi mx lo' hi' mx' : Option Value} (hx : VRel ι x x') (hl : OvRel ι lo lo') (hh : OvRel ι hi hi') (hm : OvRel ι mx mx')
    (hlc : ∀ a l c, x = .slice a l c → l ≤ c) (h : slice P σ t x lo hi mx = .ok v) : ∃ v', (Instr.sliceAt t x' lo' hi' mx').run P w = .ok v' w ∧ VRel ι v v' := by
  unfold slice at h
  obtain ⟨r, h1, h⟩ := Res.bind_ok.1 h
  have h1 := need_ok.1 h1
  suffices hs : ∃ v', prun P (Instr.sliceAt t x' lo' hi' mx') = some v' ∧ VRel ι v v' by
    obtain ⟨v', a, b⟩ := hs
    exact ⟨v', prun_run a w, b⟩
  unfold Instr.sliceAt at h1 ⊢
  simp only [prun_bind, prun_underlying] at h1 ⊢
  cases hu : P.underlying t with
  | none => simp [hu] at h1
  | some d =>
    simp only [hu, Option.bind_some] at h1 ⊢
    have viaS : (prun P (Instr.slice t x lo hi mx) = some r) → ∃ v', prun P (Instr.slice t x' lo' hi' mx') = some v' ∧ VRel ι v v' := by
      intro h1
      unfold Instr.slice at h1 ⊢
      simp only [prun_bind, prun_underlying, hu, Option.bind_some] at h1 ⊢
      cases hx with
      | string s =>
        cases d <;> simp only [prun_stuck, reduceCtorEq] at h1 ⊢
        case pointer arr => rw [prun_bind] at h1; simp [asAddr] at h1
        case string =>
          cases hm with
          | yes hm => simp [prun_bind] at h1
          | no =>
            simp only [Option.isSome_none, Bool.false_eq_true, if_false, prun_bind, prun_pure, Option.bind_some] at h1 ⊢
            rw [prun_sliceBounds] at h1 ⊢
            cases hb : bnds s.size s.size lo hi none with
            | none => simp [hb] at h1
            | some lhm =>
              obtain ⟨a, b, c⟩ := lhm
              obtain ⟨_, _, _, _, m', h5, _⟩ := bnds_rel hl hh .no (Nat.le_refl _) (Nat.le_refl _) hb
              simp only [hb, h5, Option.bind_some, prun_pure, Option.some.injEq] at h1 ⊢
              subst h1
              cases h
              exact ⟨_, rfl, .string _⟩
      | slnil l c =>
        cases d <;> simp only [prun_stuck, reduceCtorEq] at h1 ⊢
        case pointer arr => rw [prun_bind] at h1; simp [asAddr] at h1
        case slice =>
          obtain ⟨elem, hel⟩ : ∃ e, P.underlying t = some (.slice e) := ⟨_, hu⟩
          have e := TypeDesc.slice.inj (Option.some.inj (hel.symm.trans hu))
          subst e
          simp only [prun_bind, prun_sliceBounds] at h1 ⊢
          cases hb : bnds l c lo hi mx with
          | none => simp [hb] at h1
          | some lhm =>
            obtain ⟨a, b, m⟩ := lhm
            obtain ⟨_, _, _, h3, m', h5, h6, h7⟩ := bnds_rel hl hh hm (Nat.le_refl _) (hlc _ _ _ rfl) hb
            have hmm : m' = m := by
              by_cases hq : mx = none
              · rw [h6 hq, h3 hq]
              · exact h7 hq
            subst hmm
            simp only [hb, h5, Option.bind_some, prun_sizeOf] at h1 ⊢
            cases hs : (P.info? elem).map (·.size) with
            | none => simp [hs] at h1
            | some size =>
              simp only [hs, Option.bind_some, prun_pure, Option.some.injEq, Option.map_none] at h1 ⊢
              have hr' : r = .slice none (b - a) (m' - a) := by rw [← h1]; split <;> rfl
              subst hr'
              cases h
              exact ⟨_, rfl, by split <;> exact .slnil _ _⟩
      | @sl b b' l c c' ha hc =>
        cases d <;> simp only [prun_stuck, reduceCtorEq] at h1 ⊢
        case pointer arr => rw [prun_bind] at h1; simp [asAddr] at h1
        case slice =>
          obtain ⟨elem, hel⟩ : ∃ e, P.underlying t = some (.slice e) := ⟨_, hu⟩
          have e := TypeDesc.slice.inj (Option.some.inj (hel.symm.trans hu))
          subst e
          simp only [prun_bind, prun_sliceBounds] at h1 ⊢
          have hblk : ∃ o, σ.get b.block = some o := by
            cases hq : bnds l c lo hi mx with
            | none => simp [hq] at h1
            | some lhm =>
              obtain ⟨a, b2, m⟩ := lhm
              simp only [hq, Option.bind_some, prun_sizeOf] at h1
              cases hs : (P.info? elem).map (·.size) with
              | none => simp [hs] at h1
              | some size =>
                simp only [hs, Option.bind_some, prun_pure, Option.some.injEq] at h1
                have hr' : ∃ q, r = .slice (some q) (b2 - a) (m - a) := by rw [← h1]; split <;> exact ⟨_, rfl⟩
                obtain ⟨q, rfl⟩ := hr'
                simp only at h
                cases ho : σ.get b.block with
                | none => simp [ho] at h
                | some o => exact ⟨o, rfl⟩
          obtain ⟨o, ho⟩ := hblk
          obtain ⟨s, o', hs', hae, ho', hor⟩ := hr.block ha ho
          have hc' := hc
          unfold CRel at hc'
          rw [hs'] at hc'
          have hle : c ≤ c' := by rcases hc' with h | ⟨_, _, _, _, h, _⟩ <;> omega
          cases hb : bnds l c lo hi mx with
          | none => simp [hb] at h1
          | some lhm =>
            obtain ⟨a, b2, m⟩ := lhm
            obtain ⟨h2, h22, h23, h3, m', h5, h6, h7⟩ := bnds_rel hl hh hm hle (hlc _ _ _ rfl) hb
            simp only [hb, h5, Option.bind_some, prun_sizeOf] at h1 ⊢
            cases hs : (P.info? elem).map (·.size) with
            | none => simp [hs] at h1
            | some size =>
              simp only [hs, Option.bind_some, prun_pure, Option.some.injEq, Option.map_some] at h1 ⊢
              have h1E := h1
              have close : m' = m → ∃ v', Value.slice (if m' = a then some b' else some (b'.add (a * size))) (b2 - a) (m' - a) = v' ∧ VRel ι r v' := by
                intro e
                subst e
                subst h1
                refine ⟨_, rfl, ?_⟩
                by_cases hz : m' = a
                · rw [if_pos hz, if_pos hz]
                  exact .sl ha (by unfold CRel; rw [hs']; exact .inl rfl)
                · rw [if_neg hz, if_neg hz]
                  exact .sl (ha.add _) (by unfold CRel; rw [add_block, hs']; exact .inl rfl)
              have hr0 : ∃ q, r = .slice (some q) (b2 - a) (m - a) := by rw [← h1]; split <;> exact ⟨_, rfl⟩
              obtain ⟨q, hq⟩ := hr0
              rw [hq] at h
              simp only at h
              have hE := h
              have hvr : v = r := by
                rw [hq]
                split at h
                · cases h; rfl
                · cases h; rfl
                · obtain ⟨_, _, h⟩ := Res.bind_ok.1 h
                  obtain ⟨_, h⟩ := sure_ok.1 h
                  cases h; rfl
                · cases h
              rw [hvr]
              by_cases hmx : mx = none
              · have hm0 := h3 hmx
                have hm1 := h6 hmx
                subst hm0 hm1
                rcases hc' with e | ⟨csz, esz, hg, hcp, hcc, hend⟩
                · exact close e
                · -- a grown block
                  subst hmx
                  rw [ho] at hE
                  cases hor with
                  | @cells cc nn ee lo1 hi1 opn c1 hg' _ =>
                    rcases hg' with ⟨hg', _⟩ | ⟨csz', esz', i, hg', rfl, _, _, hi, hie, _⟩
                    · rw [hg'] at hg; cases hg
                    · simp only at hE
                      obtain ⟨e', he', hE⟩ := Res.bind_ok.1 hE
                      obtain ⟨hpos, _⟩ := sure_ok.1 hE
                      simp only [Bool.and_eq_true, decide_eq_true_eq] at hpos
                      obtain ⟨hpos, rfl⟩ := hpos
                      have hee : ee = elem := by
                        unfold elemT at he'
                        rw [hu] at he'
                        cases he'; rfl
                      subst hee
                      rw [hg] at hg'; cases hg'
                      rw [hi] at hs; simp at hs
                      have hse : size = esz := by omega
                      subst hse
                      subst h1E
                      have n1 : ¬ m = a := by omega
                      have n2 : ¬ m' = a := by omega
                      rw [if_neg n1, if_neg n2]
                      refine ⟨_, rfl, .sl (ha.add _) ?_⟩
                      unfold CRel
                      rw [add_block, hs']
                      refine .inr ⟨csz, size, hg, by omega, by omega, ?_⟩
                      have hoff : (b.add (a * size)).off = b.off + a * size := by
                        unfold Addr.add; split
                        · rename_i h0; rw [h0]; rfl
                        · rfl
                      rw [hoff, Nat.add_assoc, ← Nat.add_mul, Nat.add_sub_cancel' (by omega)]
                      exact hend
                  | _ => simp at hE
              · exact close (h7 hmx)
      | @ptr b b' ha =>
        cases d <;> simp only [prun_stuck, reduceCtorEq] at h1 ⊢
        case pointer =>
          obtain ⟨arr, hel⟩ : ∃ e, P.underlying t = some (.pointer e) := ⟨_, hu⟩
          have e := TypeDesc.pointer.inj (Option.some.inj (hel.symm.trans hu))
          subst e
          simp only [asAddr, prun_bind, prun_pure, Option.bind_some, prun_underlying] at h1 ⊢
          cases hua : P.underlying arr with
          | none => simp [hua] at h1
          | some da =>
            simp only [hua, Option.bind_some] at h1 ⊢
            cases da <;> simp only [prun_stuck, reduceCtorEq] at h1 ⊢
            case array =>
              obtain ⟨n, elem, hel2⟩ : ∃ n e, P.underlying arr = some (.array n e) := ⟨_, _, hua⟩
              obtain ⟨e1, e2⟩ := TypeDesc.array.inj (Option.some.inj (hel2.symm.trans hua))
              subst e1 e2
              simp only [prun_bind, prun_sliceBounds] at h1 ⊢
              cases hb : bnds n n lo hi mx with
              | none => simp [hb] at h1
              | some lhm =>
                obtain ⟨a, b2, m⟩ := lhm
                obtain ⟨_, _, _, h3, m', h5, h6, h7⟩ := bnds_rel hl hh hm (Nat.le_refl _) (Nat.le_refl _) hb
                have hmm : m' = m := by
                  by_cases hq : mx = none
                  · rw [h6 hq, h3 hq]
                  · exact h7 hq
                subst hmm
                simp only [hb, h5, Option.bind_some, prun_sizeOf] at h1 ⊢
                cases hs : (P.info? elem).map (·.size) with
                | none => simp [hs] at h1
                | some size =>
                  simp only [hs, Option.bind_some, prun_pure, Option.some.injEq] at h1 ⊢
                  subst h1
                  cases h
                  refine ⟨_, rfl, ?_⟩
                  unfold ARel at ha
                  split
                  · refine .sl (by unfold ARel; exact ha) ?_
                    unfold CRel
                    cases hq : ι b.block <;> simp [hq] at ha ⊢
                  · refine .sl ((show ARel ι b b' from ha).add _) ?_
                    unfold CRel
                    rw [add_block]
                    cases hq : ι b.block <;> simp [hq] at ha ⊢
      | _ => cases d <;> simp [asAddr, prun_bind, Cx.unk, symv, runtimePanic] at h1
    cases d with
    | array n elem =>
      simp only [prun_bind] at h1 ⊢
      cases ha : prun P (Instr.sureAddr x) with
      | none => simp [ha] at h1
      | some b =>
        obtain ⟨b', rfl, rfl, har⟩ := hx.asAddr ha
        simp only [Instr.sureAddr, prun_pure, Option.bind_some, prun_sliceBounds] at h1 ⊢
        cases hb : bnds n n lo hi mx with
        | none => simp [hb] at h1
        | some lhm =>
          obtain ⟨a, b2, m⟩ := lhm
          obtain ⟨_, _, _, h3, m', h5, h6, h7⟩ := bnds_rel hl hh hm (Nat.le_refl _) (Nat.le_refl _) hb
          have hmm : m' = m := by
            by_cases hq : mx = none
            · rw [h6 hq, h3 hq]
            · exact h7 hq
          subst hmm
          simp only [hb, h5, Option.bind_some, prun_sizeOf] at h1 ⊢
          cases hs : (P.info? elem).map (·.size) with
          | none => simp [hs] at h1
          | some size =>
            simp only [hs, Option.bind_some, prun_pure, Option.some.injEq] at h1 ⊢
            subst h1
            cases h
            refine ⟨_, rfl, ?_⟩
            have ha := har
            unfold ARel at ha
            split
            · refine .sl har ?_
              unfold CRel
              cases hq : ι b.block <;> simp [hq] at ha ⊢
            · refine .sl (har.add _) ?_
              unfold CRel
              rw [add_block]
              cases hq : ι b.block <;> simp [hq] at ha ⊢
    | _ => exact viaS h1

end Go.Cx
