/-
  CxP: operations, second part: loads and stores; new blocks; addresses; parts of structs and arrays.
-/
import Derived.Test.YtglglgkaadfhpaaGreatDoorXO
set_option linter.all false
namespace Go.Cx
variable {P : Program} [Tab P] {ι : Emb} {σ σ' : Hp} {w : World}

theorem addrOf_ok {v : Value} {a : Addr} (h : addrOf v = .ok a) : v = .pointer (some a) := by
  unfold addrOf at h
  split at h
  · cases h; rfl
  · cases h

theorem VRel.ptr_inv {a : Addr} {v' : Value} (h : VRel ι (.pointer (some a)) v') : ∃ a', v' = .pointer (some a') ∧ ARel ι a a' := by
  cases h with
  | ptr ha => exact ⟨_, rfl, ha⟩

theorem run_isAgg' {t : TypeId} {b : Bool} (h : isAgg P t = .ok b) (w : World) : (Go.isAgg t).run P w = .ok b w := prun_run (prun_isAgg h) w

theorem load_ok (hr : Rel P ι σ w) {t : TypeId} {x x' v : Value} (hx : VRel ι x x') (h : load P σ t x = .ok v) : ∃ v', (Instr.loadAt t x').run P w = .ok v' w ∧ VRel ι v v' := by
  unfold load at h
  obtain ⟨a, h1, h⟩ := Res.bind_ok.1 h
  obtain ⟨g, h2, h⟩ := Res.bind_ok.1 h
  rw [addrOf_ok h1] at hx
  obtain ⟨a', rfl, ha⟩ := hx.ptr_inv
  have hagg := run_isAgg' h2 w
  cases g with
  | true =>
    obtain ⟨n, h3, h⟩ := Res.bind_ok.1 h
    obtain ⟨vs, h4, h⟩ := Res.bind_ok.1 h
    cases h
    obtain ⟨l', h5, h6, h7⟩ := cellsAt_ok hr ha h4
    refine ⟨.agg l'.toArray, ?_, VRel.agg_list h5⟩
    have := run_loadCells_list (P := P) (w := w) a' l' h7
    rw [h6] at this
    simp [Instr.loadAt, Instr.sureAddr, loadVar, hagg, Result.andThen, run_sizeOf' h3 w, this]
  | false =>
    obtain ⟨vs, h4, h⟩ := Res.bind_ok.1 h
    obtain ⟨l', h5, h6, h7⟩ := cellsAt_ok hr ha h4
    split at h
    · rename_i u
      cases h
      cases h5 with
      | cons hu ht =>
        cases ht
        rename_i y
        refine ⟨y, ?_, hu⟩
        have hc := h7 0 y rfl
        have e : a'.add 0 = a' := by simp [Addr.add]
        rw [e] at hc
        simp [Instr.loadAt, Instr.sureAddr, loadVar, hagg, Result.andThen, Go.load, Sem.run, hc]
    · cases h

theorem VRel.cells {v v' : Value} (h : VRel ι v v') (hk : known v = true) : LRel (VRel ι) v.cells.toList v'.cells.toList := by
  cases h with
  | agg hx h1 => exact LRel.of_array hx h1
  | tuple hx h1 => simp [known] at hk
  | unk v => simp [known, Cx.unk, symv] at hk
  | sym b hb =>
    have : v'.cells = #[v'] := by
      have := hb.2
      cases v' <;> simp [oneCell] at this <;> rfl
    rw [this]
    exact .cons (.sym b hb) .nil
  | _ => refine .cons ?_ .nil <;> constructor <;> assumption

theorem setCells_one {a : Addr} {vs : List Value} (h : setCells σ a vs = .ok σ') : ∀ v ∈ vs, oneCell v = true := by
  unfold setCells at h
  split at h
  · simp
  · obtain ⟨h1, _⟩ := sure_ok.1 h
    simp only [Bool.and_eq_true, List.all_eq_true] at h1
    exact h1.2
  · cases h

theorem store_ok (hr : Rel P ι σ w) {t : TypeId} {x x' v v' : Value} (hx : VRel ι x x') (hv : VRel ι v v') (h : store P σ t x v = .ok σ') :
    ∃ w', (Instr.storeAt t x' v').run P w = .ok () w' ∧ Rel P ι σ' w' ∧ Step ι σ w ι σ' w' ∧ σ'.next = σ.next := by
  unfold store at h
  obtain ⟨a, h1, h⟩ := Res.bind_ok.1 h
  obtain ⟨n, h2, h⟩ := Res.bind_ok.1 h
  obtain ⟨h3, h⟩ := sure_ok.1 h
  have h3 : v.cells.size = n := by simpa using h3
  rw [addrOf_ok h1] at hx
  obtain ⟨a', rfl, ha⟩ := hx.ptr_inv
  have hk : known v = true := by
    have h1 := setCells_one h
    cases hv with
    | tuple hx _ => have := h1 _ (by simp [Value.cells]; rfl); simp [oneCell] at this
    | unk v => have := h1 Cx.unk (by simp [Value.cells, Cx.unk, symv]); simp [oneCell, Cx.unk, symv] at this
    | _ => rfl
  have hl := hv.cells hk
  obtain ⟨w', h4, h5, h6, h7⟩ := setCells_ok hr ha hl h
  refine ⟨w', ?_, h5, h6, h7⟩
  have hsz : v'.cells.size = n := by have := hl.length; simp at this; omega
  simp [Instr.storeAt, Instr.sureAddr, storeVar, Result.andThen, run_sizeOf' h2 w, hsz, h4]

/-! ### New blocks -/
theorem row_rel {l : List Value} {e : TypeId} {opn : Bool} {s : Slot} {c' : Array Value} (hg : Grows P s l.length e opn c'.size) (h : ∀ (j : Nat) x, l[j]? = some x → ∃ y, c'[j]? = some y ∧ VRel ι x y) :
    ORel P ι s (row l e opn) (.cells c' e) := by
  refine .cells hg fun i hi v hv => ?_
  rw [Tr.get_fill] at hv
  simp only [Nat.zero_le, if_true, Nat.sub_zero] at hv
  cases hl : l[i]? with
  | some u =>
    simp only [hl] at hv
    cases hv
    exact h i _ hl
  | none =>
    simp only [hl, Tr.get_nil] at hv
    cases hv

theorem row_closed {l : List Value} {e : TypeId} {c' : Array Value} (x : Nat) (h : LRel (VRel ι) l c'.toList) : ORel P ι ⟨x, none⟩ (row l e false) (.cells c' e) := by
  have hl := h.length
  refine row_rel (.inl ⟨rfl, rfl, by simpa using hl.symm⟩) fun j u hu => ?_
  have hj : j < c'.toList.length := by have := (List.getElem?_eq_some_iff.1 hu).1; omega
  exact ⟨c'.toList[j], by simp at hj; simp [hj], h.get j u _ hu (List.getElem?_eq_getElem hj)⟩

/-- A new closed row. -/
theorem new_row (hr : Rel P ι σ w) (hf : ι σ.next = .unborn) {l : List Value} {e : TypeId} {c' : Array Value} (h : LRel (VRel ι) l c'.toList) :
    Rel P (ι.set σ.next (.live ⟨w.heap.size, none⟩)) (σ.alloc (row l e false)) { w with heap := w.heap.push (.cells c' e) } ∧
    Step ι σ w (ι.set σ.next (.live ⟨w.heap.size, none⟩)) (σ.alloc (row l e false)) { w with heap := w.heap.push (.cells c' e) } ∧
    VRel (ι.set σ.next (.live ⟨w.heap.size, none⟩)) (.pointer (some ⟨σ.next, 0, none⟩)) (.pointer (some ⟨w.heap.size, 0, none⟩)) ∧
    Le ι (ι.set σ.next (.live ⟨w.heap.size, none⟩)) := by
  obtain ⟨h1, h2⟩ := hr.alloc hf (row_closed (P := P) (e := e) w.heap.size h)
  exact ⟨h1, h2, .ptr (by simp [ARel, Emb.set]), Le.born _ hf⟩

theorem Fresh.one (h : Fresh ι σ.next (σ.next + 1)) : ι σ.next = .unborn := h _ (Nat.le_refl _) (Nat.lt_succ_self _)

theorem slice_new {x : Nat} {n : Nat} {g : Option (Nat × Nat)} (l : Nat) (c : Nat) : VRel (ι.set n (.live ⟨x, g⟩)) (.slice (some ⟨n, 0, none⟩) l c) (.slice (some ⟨x, 0, none⟩) l c) :=
  .sl (by simp [ARel, Emb.set]) (by simp [CRel, Emb.set])

theorem zero_rel {t : TypeId} {z : Value} (h : zeroOf P t = .ok z) (ι : Emb) : VRel ι z z := flat_refl ι 8 z (zeroOf_ok h).2
theorem run_zero {t : TypeId} {z : Value} (h : zeroOf P t = .ok z) (w : World) : (zeroValue t).run P w = .ok z w := prun_run (zeroOf_ok h).1 w

theorem flat_known {n : Nat} {z : Value} (h : flat n z = true) (ht : ∀ cs, z ≠ .tuple cs) : known z = true := by
  cases z <;> first | rfl | exact absurd rfl (ht _)

theorem cells_self {z : Value} (h : VRel ι z z) : LRel (VRel ι) z.cells.toList z.cells.toList := by
  cases z with
  | agg cs =>
    cases h with
    | agg hx h1 => exact LRel.of_array hx h1
  | _ => exact .cons h .nil

/-! ### Parts -/
theorem fold_ow (f : Nat) : ∀ (l : List Value) (k : Nat) (c : Array Value), (l.zipIdx k).foldl (fun cs (x : Value × Nat) => cs.setIfInBounds (f + x.2) x.1) c = ow c (f + k) l
  | [], _, _ => rfl
  | v :: r, k, c => by
    simp only [List.zipIdx_cons, List.foldl_cons, ow]
    rw [fold_ow f r (k + 1), Nat.add_assoc]

theorem ow_rel : ∀ {vs vs' : List Value} {c c' : Array Value} {o : Nat}, LRel (VRel ι) vs vs' → LRel (VRel ι) c.toList c'.toList → LRel (VRel ι) (ow c o vs).toList (ow c' o vs').toList
  | _, _, _, _, _, .nil, hc => hc
  | _, _, c, c', o, .cons (x := x) (y := y) h t, hc => by
    simp only [ow]
    refine ow_rel t ?_
    have hl := hc.length
    refine LRel.of_get (by simpa using hl) fun i a b ha hb => ?_
    simp only [Array.toList_setIfInBounds, List.getElem?_set] at ha hb
    by_cases hi : o = i
    · subst hi
      simp only [if_true] at ha hb
      split at ha
      · split at hb
        · cases ha; cases hb; exact h
        · cases hb
      · cases ha
    · simp only [hi, if_false] at ha hb
      exact hc.get i a b ha hb

inductive PRel (ι : Emb) : List (Nat × Value) → List (Nat × Value) → Prop where
  | nil : PRel ι [] []
  | cons (i : Nat) {v v' l l'} (hk : known v = true) (h : VRel ι v v') (t : PRel ι l l') : PRel ι ((i, v) :: l) ((i, v') :: l')

theorem fill_rel {place : Nat → Option (Nat × Nat)} : ∀ {l l' : List (Nat × Value)} {c c' r : Array Value}, PRel ι l l' → LRel (VRel ι) c.toList c'.toList → Instr.fill place c l = some r →
    ∃ r', Instr.fill place c' l' = some r' ∧ LRel (VRel ι) r.toList r'.toList
  | _, _, c, c', r, .nil, hc, h => by simp only [Instr.fill, Option.some.injEq] at h; subst h; exact ⟨c', rfl, hc⟩
  | _, _, c, c', r, .cons i (v := v) (v' := v') hk hv t, hc, h => by
    simp only [Instr.fill] at h ⊢
    cases hp : place i with
    | none => simp [hp] at h
    | some os =>
      obtain ⟨off, size⟩ := os
      simp only [hp] at h ⊢
      have hl := (hv.cells hk).length
      have hcl := hc.length
      simp at hl hcl
      rw [← hl, ← hcl]
      split at h
      · cases h
      · rename_i hcond
        rw [if_neg hcond]
        have e1 : v.cells.zipIdx.foldl (fun cs (x : Value × Nat) => cs.setIfInBounds (off + x.2) x.1) c = ow c off v.cells.toList := by
          rw [← Array.foldl_toList, Array.toList_zipIdx]; exact fold_ow off _ 0 c
        have e2 : v'.cells.zipIdx.foldl (fun cs (x : Value × Nat) => cs.setIfInBounds (off + x.2) x.1) c' = ow c' off v'.cells.toList := by
          rw [← Array.foldl_toList, Array.toList_zipIdx]; exact fold_ow off _ 0 c'
        refine fill_rel t ?_ h
        rw [e1, e2]
        exact ow_rel (hv.cells hk) hc

theorem prel_map {α : Type} {f g : α → Value} : ∀ {l : List (Nat × α)}, (∀ x ∈ l, known (f x.2) = true) → (∀ x ∈ l, VRel ι (f x.2) (g x.2)) → PRel ι (l.map fun x => (x.1, f x.2)) (l.map fun x => (x.1, g x.2))
  | [], _, _ => .nil
  | x :: l, h, k => .cons x.1 (h x (by simp)) (k x (by simp)) (prel_map (fun y hy => h y (by simp [hy])) fun y hy => k y (by simp [hy]))

theorem build_rel {t : TypeId} {z : Value} (hz : zeroOf P t = .ok z) {ps ps' : List (Nat × Value)} (hp : PRel ι ps ps') {v : Value} (h : prun P (Instr.build t ps.toArray) = some v) :
    ∃ v', prun P (Instr.build t ps'.toArray) = some v' ∧ VRel ι v v' := by
  have hzs := cells_self (zero_rel hz ι)
  unfold Instr.build at h ⊢
  simp only [prun_bind, (zeroOf_ok hz).1, Option.bind_some, prun_underlying] at h ⊢
  cases hu : P.underlying t with
  | none => simp [hu] at h
  | some d =>
    simp only [hu, Option.bind_some] at h ⊢
    cases d <;> simp only [prun_stuck, reduceCtorEq] at h ⊢
    case array n elem =>
      simp only [prun_bind, prun_sizeOf] at h ⊢
      cases hs : (P.info? elem).map (·.size) with
      | none => simp [hs] at h
      | some size =>
        simp only [hs, Option.bind_some] at h ⊢
        cases hf : Instr.fill (fun i => some (i * size, size)) z.cells ps with
        | none => simp [hf] at h
        | some r =>
          obtain ⟨r', h1, h2⟩ := fill_rel hp hzs hf
          simp only [hf, h1, prun_pure, Option.some.injEq] at h ⊢
          subst h
          exact ⟨_, rfl, .agg (by have := h2.length; simpa using this) fun i x y a b => h2.get i x y (by simpa using a) (by simpa using b)⟩
    case struct fields =>
      rw [prun_bind] at h ⊢
      cases hs : prun P (Array.mapM (fun f => do let n ← sizeOf f.type; pure (f.offset, n)) fields) with
      | none => rw [hs] at h; cases h
      | some places =>
        rw [hs] at h
        simp only [Option.bind_some] at h ⊢
        cases hf : Instr.fill (places[·]?) z.cells ps with
        | none => simp [hf] at h
        | some r =>
          obtain ⟨r', h1, h2⟩ := fill_rel hp hzs hf
          simp only [hf, h1, prun_pure, Option.some.injEq] at h ⊢
          subst h
          exact ⟨_, rfl, .agg (by have := h2.length; simpa using this) fun i x y a b => h2.get i x y (by simpa using a) (by simpa using b)⟩

theorem extract_rel {xs ys : Array Value} (h : LRel (VRel ι) xs.toList ys.toList) (a b : Nat) : VRel ι (.agg (xs.extract a b)) (.agg (ys.extract a b)) := by
  have := (h.drop a).take (b - a)
  refine .agg ?_ fun i x y hx hy => ?_
  · have hl := h.length; simp at hl; simp [hl]
  · have conv : ∀ zs : Array Value, (zs.extract a b)[i]? = ((zs.toList.drop a).take (b - a))[i]? := by
      intro zs
      rw [← Array.getElem?_toList, Array.toList_extract, List.extract_eq_take_drop]
    exact this.get i x y (conv xs ▸ hx) (conv ys ▸ hy)

theorem part_rel {xs ys : Array Value} (h : LRel (VRel ι) xs.toList ys.toList) {t : TypeId} {off : Nat} {v : Value} (hp : prun P (part t xs off) = some v) : ∃ v', prun P (part t ys off) = some v' ∧ VRel ι v v' := by
  unfold part at hp ⊢
  simp only [prun_bind] at hp ⊢
  cases hg : prun P (Go.isAgg t) with
  | none => simp [hg] at hp
  | some g =>
    simp only [hg, Option.bind_some] at hp ⊢
    cases g with
    | true =>
      simp only [if_true, prun_bind, prun_sizeOf] at hp ⊢
      cases hs : (P.info? t).map (·.size) with
      | none => simp [hs] at hp
      | some n =>
        simp only [hs, Option.bind_some, prun_pure, Option.some.injEq] at hp ⊢
        subst hp
        exact ⟨_, rfl, extract_rel h _ _⟩
    | false =>
      simp only [Bool.false_eq_true, if_false] at hp ⊢
      cases hx : xs[off]? with
      | none => simp [hx] at hp
      | some x =>
        simp only [hx, prun_pure, Option.some.injEq] at hp
        subst hp
        have hlt : off < ys.size := by
          have := (Array.getElem?_eq_some_iff.1 hx).1
          have hl := h.length; simp at hl; omega
        refine ⟨ys[off], by simp [hlt], h.get off x _ (by simpa using hx) (by simp [hlt])⟩

theorem field_rel {t : TypeId} {f : Nat} {x x' v : Value} (hx : VRel ι x x') (h : prun P (Instr.field t x f) = some v) : ∃ v', prun P (Instr.field t x' f) = some v' ∧ VRel ι v v' := by
  unfold Instr.field at h ⊢
  simp only [prun_bind, prun_underlying] at h ⊢
  cases hu : P.underlying t with
  | none => simp [hu] at h
  | some d =>
    simp only [hu, Option.bind_some] at h ⊢
    cases d <;> simp only [prun_stuck, reduceCtorEq] at h ⊢
    case struct fields =>
      cases hf : fields[f]? with
      | none => simp [hf] at h
      | some fd =>
        simp only [hf, prun_bind] at h ⊢
        cases hx with
        | agg hs h1 =>
          simp only [asAgg, prun_pure, Option.bind_some] at h ⊢
          exact part_rel (LRel.of_array hs h1) h
        | _ => simp [asAgg, Cx.unk, symv] at h

theorem index_rel {t : TypeId} {x x' i i' v : Value} (hx : VRel ι x x') (hi : VRel ι i i') (h : prun P (Instr.index t x i) = some v) : ∃ v', prun P (Instr.index t x' i') = some v' ∧ VRel ι v v' := by
  unfold Instr.index at h ⊢
  simp only [prun_bind, prun_underlying] at h ⊢
  cases hi with
  | int k n =>
    simp only [asIntOf, prun_pure, Option.bind_some] at h ⊢
    cases hu : P.underlying t with
    | none => simp [hu] at h
    | some d =>
      simp only [hu, Option.bind_some] at h ⊢
      cases hx with
      | agg hs h1 =>
        cases d <;> simp only [prun_stuck, reduceCtorEq] at h ⊢
        case array len elem =>
          split at h
          · rename_i hc
            rw [if_pos hc]
            simp only [prun_bind, prun_sizeOf] at h ⊢
            cases hsz : (P.info? elem).map (·.size) with
            | none => simp [hsz] at h
            | some size =>
              simp only [hsz, Option.bind_some] at h ⊢
              exact part_rel (LRel.of_array hs h1) h
          · unfold boundsPanic at h
            split at h <;> simp [runtimePanic, prun_bind, Functor.map] at h
      | string s =>
        cases d <;> simp only [prun_stuck, reduceCtorEq] at h ⊢
        case string =>
          split at h
          · rename_i b hb
            simp only [prun_pure, Option.some.injEq] at h ⊢
            subst h
            exact ⟨_, rfl, .int _ _⟩
          · exact ⟨v, h, by
              unfold boundsPanic at h
              split at h <;> simp [runtimePanic, prun_bind, Functor.map] at h⟩
      | _ => cases d <;> simp [Cx.unk, symv] at h
  | _ => simp [asIntOf, Cx.unk, symv] at h

end Go.Cx
