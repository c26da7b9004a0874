/-
  CxO: operations: what the abstract one answers, the model's run answers too. First part: values, cells.
-/
import Derived.Test.YtglglgkaadfhpaaGreatDoorXR
set_option linter.all false
namespace Go.Cx

theorem prun_run {α : Type} {P : Program} {s : Sem α} : ∀ {a : α}, prun P s = some a → ∀ w, s.run P w = .ok a w := by
  induction s with
  | pure a => intro b h w; simp [prun] at h; subst h; rfl
  | program k ih => intro b h w; exact ih P (by simpa [prun] using h) w
  | mark m k ih => intro b h w; exact ih (by simpa [prun] using h) w
  | _ => intro b h; simp [prun] at h

theorem prun_bind {α β : Type} {P : Program} (s : Sem α) (f : α → Sem β) : prun P (s >>= f) = (prun P s).bind fun a => prun P (f a) := by
  show prun P (s.bind f) = _
  induction s with
  | pure a => rfl
  | program k ih => exact ih P
  | mark m k ih => exact ih
  | _ => rfl

@[simp] theorem prun_pure {α : Type} {P : Program} (a : α) : prun P (Pure.pure a : Sem α) = some a := rfl
@[simp] theorem prun_pure' {α : Type} {P : Program} (a : α) : prun P (Sem.pure a : Sem α) = some a := rfl
@[simp] theorem prun_halt {α : Type} {P : Program} (h : Halt) : prun P (Sem.halt h : Sem α) = none := rfl
@[simp] theorem prun_stuck {α : Type} {P : Program} (s : String) : prun P (stuck s : Sem α) = none := rfl
@[simp] theorem prun_unsupported {α : Type} {P : Program} (u : Unsupported) : prun P (unsupported u : Sem α) = none := rfl
@[simp] theorem prun_goPanic {α : Type} {P : Program} (v : Value) : prun P (goPanic v : Sem α) = none := rfl
@[simp] theorem prun_program {P : Program} : prun P program = some P := rfl
@[simp] theorem prun_choose {P : Program} (q : Question) : prun P (choose q) = none := rfl

theorem Res.bind_ok {α β : Type} {x : Res α} {f : α → Res β} {b : β} : x.bind f = .ok b ↔ ∃ a, x = .ok a ∧ f a = .ok b := by
  cases x with
  | ok a => simp [Res.bind]
  | no s => simp [Res.bind]

theorem need_ok {α : Type} {x : Option α} {s : String} {a : α} : need x s = .ok a ↔ x = some a := by cases x <;> simp [need]
theorem sure_ok {α : Type} {b : Bool} {s : String} {k : Res α} {a : α} : sure b s k = .ok a ↔ b = true ∧ k = .ok a := by cases b <;> simp [sure]
theorem keep_ok {σ σ' : Hp} {x : Res Value} {v : Value} : keep σ x = .ok (v, σ') ↔ x = .ok v ∧ σ' = σ := by
  cases x <;> simp [keep, Res.bind, eq_comm]
theorem done_ok {σ' : Hp} {x : Res Hp} {v : Value} : done x = .ok (v, σ') ↔ x = .ok σ' ∧ v = undef := by
  cases x <;> simp [done, Res.bind, and_comm, eq_comm]
theorem pr_ok {P : Program} {σ σ' : Hp} {s : Sem Value} {why : String} {v : Value} : pr P σ s why = .ok (v, σ') ↔ prun P s = some v ∧ σ' = σ := by
  unfold pr
  cases prun P s <;> simp [need, Res.bind, eq_comm]

/-! ### Types -/
theorem szOf_ok {P : Program} {t : TypeId} {n : Nat} (h : szOf P t = .ok n) : (P.info? t).map (·.size) = some n := need_ok.1 h
theorem run_sizeOf' {P : Program} {t : TypeId} {n : Nat} (h : szOf P t = .ok n) (w : World) : (sizeOf t).run P w = .ok n w := by
  have := szOf_ok h
  cases hi : P.info? t with
  | none => simp [hi] at this
  | some i => simp [hi] at this; subst this; simp [sizeOf, typeInfo, program, hi, Sem.run, Result.andThen]
theorem prun_sizeOf {P : Program} {t : TypeId} : prun P (sizeOf t) = (P.info? t).map (·.size) := by
  unfold sizeOf typeInfo
  simp only [prun_bind, prun_program, Option.bind_some]
  cases P.info? t <;> rfl
theorem prun_underlying {P : Program} {t : TypeId} : prun P (underlying t) = P.underlying t := by
  unfold underlying
  simp only [prun_bind, prun_program, Option.bind_some]
  cases P.underlying t <;> rfl
theorem prun_zeroValue {P : Program} {t : TypeId} : prun P (zeroValue t) = (P.info? t).bind (·.zero) := by
  unfold zeroValue typeInfo
  simp only [prun_bind, prun_program, Option.bind_some]
  cases P.info? t with
  | none => rfl
  | some i => simp; cases i.zero <;> rfl
theorem zeroOf_ok {P : Program} {t : TypeId} {z : Value} (h : zeroOf P t = .ok z) : prun P (zeroValue t) = some z ∧ flat 8 z = true := by
  unfold zeroOf at h
  obtain ⟨a, h1, h2⟩ := Res.bind_ok.1 h
  obtain ⟨h3, h4⟩ := sure_ok.1 h2
  cases h4
  exact ⟨prun_zeroValue.trans (need_ok.1 h1), h3⟩
theorem prun_isAgg {P : Program} {t : TypeId} {b : Bool} (h : isAgg P t = .ok b) : prun P (Go.isAgg t) = some b := by
  unfold isAgg at h
  unfold Go.isAgg
  simp only [prun_bind, prun_underlying]
  cases hu : P.underlying t with
  | none => simp [hu] at h
  | some d => cases d <;> simp [hu] at h ⊢ <;> exact h

/-! ### Operands -/
def FRel (ι : Emb) (fr : Fr) (tmps : Array Value) : Prop := tmps.size = fr.n ∧ ∀ i, VRel ι (fr.at i) (tmps.getD i undef)

theorem FRel.mono {ι ι' : Emb} (h : Le ι ι') {fr : Fr} {tmps : Array Value} (k : FRel ι fr tmps) : FRel ι' fr tmps := ⟨k.1, fun i => (k.2 i).mono h⟩

theorem Fr.at_put (fr : Fr) (i j : Nat) (v : Value) : (fr.put i v).at j = if j = i ∧ i < fr.n then v else fr.at j := by
  unfold Fr.put
  cases hb : Nat.blt i fr.n with
  | true =>
    have hb : i < fr.n := by simpa using hb
    simp only [Fr.at, Tr.get_set _ _ _ _ _ (Nat.lt_succ_self i)]
    by_cases h : j = i
    · subst h; simp [hb]
    · simp [h]
  | false =>
    have hb : ¬ i < fr.n := by
      intro h
      have k : Nat.blt i fr.n = true := by rw [Nat.blt_eq]; exact h
      rw [k] at hb; cases hb
    simp [hb]

@[simp] theorem Fr.n_put (fr : Fr) (i : Nat) (v : Value) : (fr.put i v).n = fr.n := by unfold Fr.put; split <;> rfl

theorem FRel.put {ι : Emb} {fr : Fr} {tmps : Array Value} (h : FRel ι fr tmps) {v v' : Value} (hv : VRel ι v v') (i : Nat) : FRel ι (fr.put i v) (tmps.setIfInBounds i v') := by
  refine ⟨by simp [h.1], fun j => ?_⟩
  rw [Fr.at_put]
  by_cases hj : j = i ∧ i < fr.n
  · obtain ⟨rfl, hi⟩ := hj
    simp [hi, h.1, hv]
  · simp only [hj, if_false]
    by_cases h1 : j = i
    · subst h1
      have : ¬ j < tmps.size := by rw [h.1]; exact fun k => hj ⟨rfl, k⟩
      have e : tmps.setIfInBounds j v' = tmps := by rw [Array.setIfInBounds_eq_of_size_le (by omega)]
      rw [e]; exact h.2 j
    · have : (tmps.setIfInBounds i v').getD j undef = tmps.getD j undef := by
        simp [Array.getElem?_setIfInBounds_ne (Ne.symm h1)]
      rw [this]; exact h.2 j

theorem constV_rel (ι : Emb) (v : Value) : VRel ι (constV v) v := by
  unfold constV
  split
  · exact .int _ _
  · exact .bool _
  · exact .string _
  · split
    · rename_i h; exact flat_refl ι 8 _ h
    · exact .unk _

/-- Each operand stands for what the activation reads. -/
def ERel (ι : Emb) (fr : Fr) (ρ : Operand → Value) : Prop := ∀ x, VRel ι (ev fr x) (ρ x)

/-- What an operation has done. -/
def Did (P : Program) [Tab P] (ι : Emb) (σ : Hp) (w : World) (σ' : Hp) (v : Value) (r : Result Next) : Prop :=
  ∃ nx w' ι' v', r = .ok nx w' ∧ (nx = .value v' ∨ (nx = .skip ∧ v' = undef)) ∧ Rel P ι' σ' w' ∧ Step ι σ w ι' σ' w' ∧ VRel ι' v v'

theorem Did.quiet {P : Program} [Tab P] {ι : Emb} {σ : Hp} {w : World} {v v' : Value} {r : Result Next} (hr : Rel P ι σ w) (h : r = .ok (.value v') w) (hv : VRel ι v v') : Did P ι σ w σ v r :=
  ⟨_, w, ι, v', h, .inl rfl, hr, Step.refl ι σ w, hv⟩

/-! ### Cells -/
theorem Rel.block {P : Program} [Tab P] {ι : Emb} {σ : Hp} {w : World} (h : Rel P ι σ w) {a a' : Addr} (ha : ARel ι a a') {o : Ob} (hb : σ.get a.block = some o) :
    ∃ s o', ι a.block = .live s ∧ a' = ⟨s.x, a.off, a.spot⟩ ∧ w.heap[s.x]? = some o' ∧ ORel P ι s o o' := by
  obtain ⟨s, hs, o', ho', hr⟩ := h.live _ o hb
  unfold ARel at ha
  rw [hs] at ha
  exact ⟨s, o', hs, ha, ho', hr⟩

theorem gets_ok {c : Tr Value} : ∀ {n i : Nat} {l : List Value}, gets c i n = .ok l → l.length = n ∧ ∀ j v, l[j]? = some v → c.get (i + j) = some v
  | 0, i, l, h => by simp [gets] at h; subst h; simp
  | n + 1, i, l, h => by
    simp only [gets] at h
    cases hc : c.get i with
    | none => simp [hc] at h
    | some v =>
      simp only [hc] at h
      obtain ⟨l', h1, h2⟩ := Res.bind_ok.1 h
      cases h2
      obtain ⟨h3, h4⟩ := gets_ok h1
      refine ⟨by simp [h3], fun j u hj => ?_⟩
      cases j with
      | zero => simp at hj; subst hj; exact hc
      | succ j => simp at hj; have := h4 j u hj; rwa [Nat.add_right_comm, Nat.add_assoc] at this

theorem cellsAt_ok {P : Program} [Tab P] {ι : Emb} {σ : Hp} {w : World} (h : Rel P ι σ w) {a a' : Addr} (ha : ARel ι a a') {n : Nat} {l : List Value} (hl : cellsAt σ a n = .ok l) :
    ∃ l', LRel (VRel ι) l l' ∧ l'.length = n ∧ ∀ j v, l'[j]? = some v → w.cell? (a'.add j) = some v := by
  unfold cellsAt at hl
  split at hl
  · rename_i sp c m e lo hi opn hsp hb
    obtain ⟨h1, h2⟩ := sure_ok.1 hl
    have h1 : a.off + n ≤ m := by simpa using h1
    obtain ⟨h3, h4⟩ := gets_ok h2
    obtain ⟨s, o', hs, hae, ho', hr⟩ := h.block ha hb
    cases hr with
    | @cells _ _ _ _ _ _ c' hg hc =>
      have hcell : ∀ j, j < n → ∃ v', c'[a.off + j]? = some v' ∧ ∀ v, l[j]? = some v → VRel ι v v' := by
        intro j hj
        have hjl : j < l.length := by omega
        obtain ⟨v', hv', hvr⟩ := hc (a.off + j) (by omega) l[j] (h4 j _ (List.getElem?_eq_getElem hjl))
        exact ⟨v', hv', fun v hv => by rw [List.getElem?_eq_getElem hjl] at hv; cases hv; exact hvr⟩
      have hsz : ∀ j, j < n → a.off + j < c'.size := fun j hj => by
        obtain ⟨v', hv', _⟩ := hcell j hj
        exact (Array.getElem?_eq_some_iff.1 hv').1
      refine ⟨(c'.toList.drop a.off).take n, ?_, ?_, ?_⟩
      · refine LRel.of_get ?_ ?_
        · cases n with
          | zero => simp [h3]
          | succ n => have := hsz n (by omega); simp [h3]; omega
        · intro j x y hx hy
          have hj : j < n := by have := (List.getElem?_eq_some_iff.1 hx).1; omega
          obtain ⟨v', hv', hvr⟩ := hcell j hj
          have : y = v' := by
            simp [hj, List.getElem?_drop] at hy
            rw [hv'] at hy; cases hy; rfl
          subst this
          exact hvr x hx
      · cases n with
        | zero => simp
        | succ n => have := hsz n (by omega); simp; omega
      · intro j v hv
        have hj : j < n := by
          have := (List.getElem?_eq_some_iff.1 hv).1
          simp at this; omega
        have hv2 : c'[a.off + j]? = some v := by simpa [hj, List.getElem?_drop] using hv
        have hadd : a'.add j = ⟨s.x, a.off + j, none⟩ := by
          rw [hae, hsp]; unfold Addr.add; split
          · rename_i h0; subst h0; rfl
          · rfl
        rw [hadd]
        simp [World.cell?, ho', hv2]
  · cases hl

def ow (c : Array Value) (o : Nat) : List Value → Array Value
  | [] => c
  | v :: r => ow (c.setIfInBounds o v) (o + 1) r

@[simp] theorem size_ow : ∀ (l : List Value) (c : Array Value) (o : Nat), (ow c o l).size = c.size
  | [], _, _ => rfl
  | v :: r, c, o => by simp [ow, size_ow r]

theorem get_ow : ∀ (l : List Value) (c : Array Value) (o m : Nat), o + l.length ≤ c.size → (ow c o l)[m]? = if o ≤ m then (match l[m - o]? with | some v => some v | none => c[m]?) else c[m]?
  | [], c, o, m, _ => by simp [ow]
  | v :: r, c, o, m, h => by
    simp only [List.length_cons] at h
    simp only [ow]
    rw [get_ow r _ _ _ (by simp; omega)]
    by_cases h1 : o + 1 ≤ m
    · have h2 : o ≤ m := by omega
      obtain ⟨k, rfl⟩ : ∃ k, m = o + 1 + k := ⟨m - (o + 1), by omega⟩
      have e1 : o + 1 + k - (o + 1) = k := by omega
      have e2 : o + 1 + k - o = k + 1 := by omega
      have e3 : o ≠ o + 1 + k := by omega
      simp only [h1, h2, e1, e2, if_true, List.getElem?_cons_succ, Array.getElem?_setIfInBounds_ne e3]
    · by_cases h2 : m = o
      · subst h2
        have : m < c.size := by omega
        simp [h1, this]
      · have h3 : ¬ o ≤ m := by omega
        simp [h1, h3, Array.getElem?_setIfInBounds_ne (Ne.symm h2)]

theorem run_storeCells' {P : Program} (x e : Nat) (fz : Nat × Nat) (off : Nat) : ∀ (vs : List Value) (i : Nat) (c : Array Value) (w : World), w.heap[x]? = some (.cells c e fz) → off + i + vs.length ≤ c.size →
    (∀ j, off + i ≤ j → j < off + i + vs.length → ¬ (fz.1 ≤ j ∧ j < fz.2)) → (∀ v ∈ vs, oneCell v = true) →
    (storeCells ⟨x, off, none⟩ vs i).run P w = .ok () (match vs with | [] => w | _ => { w with heap := w.heap.setIfInBounds x (.cells (ow c (off + i) vs) e fz) })
  | [], i, c, w, _, _, _, _ => by simp [storeCells]
  | v :: r, i, c, w, hx, hl, hf, hv => by
    simp only [List.length_cons] at hl hf
    have hadd : (⟨x, off, none⟩ : Addr).add i = ⟨x, off + i, none⟩ := by
      unfold Addr.add; split
      · rename_i h0; subst h0; rfl
      · rfl
    have hlt : off + i < c.size := by omega
    have hcell : w.cell? ⟨x, off + i, none⟩ = some c[off + i] := by simp [World.cell?, hx, hlt]
    have hfr : w.frozen? ⟨x, off + i, none⟩ = false := by
      have := hf (off + i) (Nat.le_refl _) (by omega)
      simp only [World.frozen?, hx]
      simpa using this
    have hset : w.setCell ⟨x, off + i, none⟩ v = { w with heap := w.heap.setIfInBounds x (.cells (c.setIfInBounds (off + i) v) e fz) } := by
      have hlt' := (Array.getElem?_eq_some_iff.1 hx).1
      simp only [World.setCell]
      congr 1
      apply Array.ext
      · simp
      · intro j h1 h2
        have hxe : w.heap[x] = .cells c e fz := (Array.getElem?_eq_some_iff.1 hx).2
        rw [Array.getElem_modify]
        by_cases hj : x = j
        · subst hj; simp [hxe]
        · rw [if_neg hj, Array.getElem_setIfInBounds_ne (h := hj)]
    have hstore : (Go.store ⟨x, off + i, none⟩ v).run P w = .ok () { w with heap := w.heap.setIfInBounds x (.cells (c.setIfInBounds (off + i) v) e fz) } := by
      have h1 := hv v (by simp)
      rw [← hset]
      cases v <;> simp [oneCell] at h1 <;> simp [Go.store, Sem.run, hcell, hfr]
    have hlt' := (Array.getElem?_eq_some_iff.1 hx).1
    have ih := run_storeCells' (P := P) x e fz off r (i + 1) (c.setIfInBounds (off + i) v) { w with heap := w.heap.setIfInBounds x (.cells (c.setIfInBounds (off + i) v) e fz) }
      (by simp [hlt']) (by simp; omega) (fun j a b => hf j (by omega) (by omega)) (fun u hu => hv u (by simp [hu]))
    simp only [storeCells, Sem.run_bind, hadd, hstore, Result.andThen, ih]
    cases r with
    | nil => simp [ow]
    | cons u r => simp [ow, Nat.add_assoc]

theorem setCells_ok {P : Program} [Tab P] {ι : Emb} {σ σ' : Hp} {w : World} (h : Rel P ι σ w) {a a' : Addr} (ha : ARel ι a a') {vs vs' : List Value} (hv : LRel (VRel ι) vs vs') (hs : setCells σ a vs = .ok σ') :
    ∃ w', (storeCells a' vs').run P w = .ok () w' ∧ Rel P ι σ' w' ∧ Step ι σ w ι σ' w' ∧ σ'.next = σ.next := by
  unfold setCells at hs
  split at hs
  · cases hs; cases hv
    exact ⟨w, by simp [storeCells], h, Step.refl _ _ _, rfl⟩
  · rename_i v r c m e lo hi opn hsp hb
    obtain ⟨h1, h2⟩ := sure_ok.1 hs
    simp only [Bool.and_eq_true, Bool.or_eq_true, Nat.ble_eq, List.all_eq_true] at h1
    obtain ⟨⟨h1, h3⟩, h4⟩ := h1
    cases h2
    obtain ⟨s, o', hs', hae, ho', hr⟩ := h.block ha hb
    cases hr with
    | @cells _ _ _ _ _ _ c' hg hc =>
      have hsz : m ≤ c'.size := by rcases hg with ⟨_, _, h⟩ | ⟨_, _, _, _, _, h, h', _⟩ <;> omega
      have hlen := hv.length
      have hone : ∀ u ∈ vs', oneCell u = true := by
        intro u hu
        obtain ⟨j, hj⟩ := List.getElem?_of_mem hu
        have hjl : j < (v :: r).length := by have := (List.getElem?_eq_some_iff.1 hj).1; omega
        have hrel := hv.get j _ u (List.getElem?_eq_getElem hjl) hj
        have h5 := h4 _ (List.getElem_mem hjl)
        generalize (v :: r)[j] = q at hrel h5
        cases hrel <;> first | rfl | (simp [oneCell, unk] at h5; done) | exact (‹SRel _ _ _›).2
      have hrun := run_storeCells' (P := P) s.x e (lo, hi) a.off vs' 0 c' w ho' (by omega) (fun j h5 h6 => by simp only [Nat.add_zero] at h5 h6; omega) hone
      have hne : vs' ≠ [] := by intro h0; rw [h0] at hlen; simp at hlen
      have hw : (match vs' with | [] => w | _ => { w with heap := w.heap.setIfInBounds s.x (.cells (ow c' (a.off + 0) vs') e (lo, hi)) }) = { w with heap := w.heap.setIfInBounds s.x (.cells (ow c' a.off vs') e (lo, hi)) } := by
        cases vs' with
        | nil => exact absurd rfl hne
        | cons u r => rfl
      rw [hw] at hrun
      have hor : ORel P ι s (.cells (Tr.fill a.off (v :: r) c) m e lo hi opn) (.cells (ow c' a.off vs') e (lo, hi)) := by
        refine .cells (by simpa using hg) fun i hi' u hu => ?_
        rw [Tr.get_fill] at hu
        rw [get_ow _ _ _ _ (by omega)]
        by_cases hle : a.off ≤ i
        · simp only [hle, if_true] at hu ⊢
          cases hq : (v :: r)[i - a.off]? with
          | some q =>
            simp only [hq] at hu
            cases hu
            have hj : i - a.off < vs'.length := by have := (List.getElem?_eq_some_iff.1 hq).1; omega
            have := hv.get _ _ _ hq (List.getElem?_eq_getElem hj)
            exact ⟨vs'[i - a.off], by simp [List.getElem?_eq_getElem hj], this⟩
          | none =>
            simp only [hq] at hu
            have hj : vs'[i - a.off]? = none := by rw [List.getElem?_eq_none_iff] at hq ⊢; omega
            obtain ⟨v', hv', hvr⟩ := hc i hi' u hu
            exact ⟨v', by simp [hj, hv'], hvr⟩
        · simp only [hle, if_false] at hu ⊢
          exact hc i hi' u hu
      obtain ⟨k1, k2⟩ := h.put hb hs' hor
      rw [hae, hsp]
      exact ⟨_, hrun, k1, k2, rfl⟩
  · cases hs

end Go.Cx

/-
  CxA: numbers: the quick arithmetic is the model's.
-/

namespace Go.Cx

theorem wr_eq (k : IntKind) (n : Int) : wr k n = k.wrap n := by
  unfold wr
  split
  · rename_i x
    split
    · rename_i hb
      rw [Nat.blt_eq] at hb
      cases k <;> simp [lim] at hb <;> simp [IntKind.wrap, IntKind.bits, IntKind.signed] <;> omega
    · split
      · rename_i hs
        cases k <;> simp [IntKind.signed] at hs <;> simp [IntKind.wrap, IntKind.bits, IntKind.signed, lim]
      · rfl
  · rfl

theorem wrap_mod (k : IntKind) (m : Nat) : k.wrap ((m % 2 ^ k.bits : Nat) : Int) = k.wrap (m : Int) := by
  cases k <;> simp [IntKind.wrap, IntKind.bits]

theorem ofInt_nat (n x : Nat) : (BitVec.ofInt n (x : Int)).toNat = x % 2 ^ n := by
  simp

theorem binInt_run {op : BinOp} {k : IntKind} {a b : Int} {v : Value} (h : binInt op k a b = some v) (hop : op ≠ .shl ∧ op ≠ .shr) (t : TypeId) : Go.binOp op t (.int k a) (.int k b) = Pure.pure v := by
  obtain ⟨h1, h2⟩ := hop
  cases op <;> simp only [binInt, Option.some.injEq, reduceCtorEq] at h <;> try (exact absurd rfl h1) <;> try (exact absurd rfl h2)
  case add => subst h; simp [Go.binOp, Op.intArith, wr_eq]
  case sub => subst h; simp [Go.binOp, Op.intArith, wr_eq]
  case mul => subst h; simp [Go.binOp, Op.intArith, wr_eq]
  case quo =>
    split at h
    · rename_i x y
      cases h
      have hne : ((y + 1 : Nat) : Int) ≠ 0 := by omega
      simp only [Go.binOp, Op.intDiv, ne_eq, not_true_eq_false, if_false, Int.ofNat_eq_natCast, hne, wr_eq]
      rw [← Int.ofNat_tdiv]
    · cases h
  case rem =>
    split at h
    · rename_i x y
      cases h
      have hne : ((y + 1 : Nat) : Int) ≠ 0 := by omega
      simp only [Go.binOp, Op.intDiv, ne_eq, not_true_eq_false, if_false, Int.ofNat_eq_natCast, hne]
      rw [← Int.ofNat_tmod]
    · cases h
  case and =>
    split at h
    · rename_i x y
      cases h
      simp only [Go.binOp, Op.intBits, ne_eq, not_true_eq_false, if_false, Int.ofNat_eq_natCast, wr_eq, BitVec.toNat_and, ofInt_nat]
      rw [← Nat.and_mod_two_pow, wrap_mod]; rfl
    · cases h
  case or =>
    split at h
    · rename_i x y
      cases h
      simp only [Go.binOp, Op.intBits, ne_eq, not_true_eq_false, if_false, Int.ofNat_eq_natCast, wr_eq, BitVec.toNat_or, ofInt_nat]
      rw [← Nat.or_mod_two_pow, wrap_mod]; rfl
    · cases h
  case xor =>
    split at h
    · rename_i x y
      cases h
      simp only [Go.binOp, Op.intBits, ne_eq, not_true_eq_false, if_false, Int.ofNat_eq_natCast, wr_eq, BitVec.toNat_xor, ofInt_nat]
      rw [← Nat.xor_mod_two_pow, wrap_mod]; rfl
    · cases h
  all_goals (subst h; simp [Go.binOp, Op.intCmp])

theorem shiftInt_run {op : BinOp} {k : IntKind} {a b : Int} {v : Value} (h : shiftInt op k a b = some v) (j : IntKind) (t : TypeId) : Go.binOp op t (.int k a) (.int j b) = Pure.pure v := by
  unfold shiftInt at h
  split at h
  · rename_i x y
    cases h
    have : ¬ ((y : Int) < 0) := by omega
    simp only [Go.binOp, Op.shift, Int.ofNat_eq_natCast, this, if_false, Int.toNat_natCast, wr_eq]
    congr 3
  · rename_i x y
    cases h
    have : ¬ ((y : Int) < 0) := by omega
    simp only [Go.binOp, Op.shift, Int.ofNat_eq_natCast, this, if_false, Int.toNat_natCast]
    have e : ((x : Int).fdiv (2 ^ min y k.bits)) = ((x / 2 ^ min y k.bits : Nat) : Int) := by
      rw [Int.fdiv_eq_ediv_of_nonneg _ (by exact_mod_cast Nat.zero_le (2 ^ min y k.bits))]
      push_cast
      rfl
    rw [e]
  · cases h

end Go.Cx
