/-
  CxD: operations, all together: 'plain_did'.
-/
import Derived.Test.YtglglgkaadfhpaaGreatDoorXL
set_option linter.all false
namespace Go.Cx
variable {P : Program} [Tab P] {ι : Emb} {σ σ' : Hp} {w : World} {fr : Fr} {ρ : Operand → Value} {o : Oper}

theorem Did.val {ι' : Emb} {w' : World} {v v' : Value} {r : Result Next} (h : r = .ok (.value v') w') (h1 : Rel P ι' σ' w') (h2 : Step ι σ w ι' σ' w') (h3 : VRel ι' v v') : Did P ι σ w σ' v r :=
  ⟨_, w', ι', v', h, .inl rfl, h1, h2, h3⟩

theorem run_value {s : Sem Value} {v' : Value} {w' : World} (h : s.run P w = .ok v' w') : (do Pure.pure (Next.value (← s)) : Sem Next).run P w = .ok (.value v') w' := by
  simp [h, Result.andThen]

theorem flatOp_run (he : ERel ι fr ρ) (hs : ∀ cs b, o.op ≠ .select cs b) {v : Value} (h : flatOp P fr o = .ok v) (w : World) : (execOp ρ o).run P w = .ok (.value v) w ∧ VRel ι v v := by
  unfold flatOp at h
  obtain ⟨h1, h⟩ := sure_ok.1 h
  obtain ⟨r, h2, h⟩ := Res.bind_ok.1 h
  have hc : execOp ρ o = execOp (ev fr) o := execOp_congr o hs fun x hx => by
    have := List.all_eq_true.1 h1 x (by simpa using hx)
    exact flat_eq 8 this (he x)
  rw [hc]
  split at h
  · obtain ⟨h3, h⟩ := sure_ok.1 h
    cases h
    exact ⟨prun_run (need_ok.1 h2) w, flat_refl ι 8 _ h3⟩
  · cases h

theorem keep_flat (hr : Rel P ι σ w) (he : ERel ι fr ρ) (hs : ∀ cs b, o.op ≠ .select cs b) {v : Value} (h : keep σ (flatOp P fr o) = .ok (v, σ')) : Did P ι σ w σ' v ((execOp ρ o).run P w) := by
  obtain ⟨hk, rfl⟩ := keep_ok.1 h
  obtain ⟨h1, h2⟩ := flatOp_run he hs hk w
  exact Did.quiet hr h1 h2

/-- What needs no world, answered alike. -/
theorem did_prun (hr : Rel P ι σ w) {s s' : Sem Value} {why : String} {v : Value} (h : pr P σ s why = .ok (v, σ')) (hs : ∀ u, prun P s = some u → ∃ u', prun P s' = some u' ∧ VRel ι u u') {x : Sem Next} (hx : x = do Pure.pure (.value (← s'))) :
    Did P ι σ w σ' v (x.run P w) := by
  obtain ⟨hk, rfl⟩ := pr_ok.1 h
  obtain ⟨u', h1, h2⟩ := hs v hk
  subst hx
  exact Did.quiet hr (run_value (prun_run h1 w)) h2

theorem VRel.int_eq {k : IntKind} {n : Int} {v' : Value} (h : VRel ι (.int k n) v') : v' = .int k n := by cases h; rfl
theorem VRel.str_eq {s : ByteArray} {v' : Value} (h : VRel ι (.string s) v') : v' = .string s := by cases h; rfl
theorem VRel.bool_eq {b : Bool} {v' : Value} (h : VRel ι (.bool b) v') : v' = .bool b := by cases h; rfl

theorem binInt_did (hr : Rel P ι σ w) (he : ERel ι fr ρ) {op : BinOp} {t yt : TypeId} {x y : Operand} (hop : o.op = .binOp op t x y yt) {j k : IntKind} {a b : Int} (hx : ev fr x = .int j a) (hy : ev fr y = .int k b) {v : Value}
    (h : opBinInt P fr σ o op j k a b = .ok (v, σ')) : Did P ι σ w σ' v ((execOp ρ o).run P w) := by
  have hρx : ρ x = .int j a := (hx ▸ he x).int_eq
  have hρy : ρ y = .int k b := (hy ▸ he y).int_eq
  have hns : ∀ cs b, o.op ≠ .select cs b := by rw [hop]; intro _ _ h; cases h
  have heq : (eqGuard op t x y (.int j a) (.int k b)) = Pure.pure () := by
    unfold eqGuard
    cases op <;> rfl
  have fin : ∀ u, Go.binOp op t (.int j a) (.int k b) = Pure.pure u → VRel ι u u → .ok (u, σ) = (Res.ok (v, σ') : Res (Value × Hp)) → Did P ι σ w σ' v ((execOp ρ o).run P w) := by
    intro u h1 h2 h3
    cases h3
    refine Did.quiet hr ?_ h2
    simp [execOp, hop, hρx, hρy, heq, h1, Result.andThen]
  have vi : ∀ {u : Value}, binInt op j a b = some u → VRel ι u u := by
    intro u hu
    unfold binInt at hu
    repeat' split at hu
    all_goals first | (cases hu; first | exact .int _ _ | exact .bool _) | cases hu
  have vs : ∀ {u : Value}, shiftInt op j a b = some u → VRel ι u u := by
    intro u hu
    unfold shiftInt at hu
    split at hu <;> first | (cases hu; exact .int _ _) | cases hu
  have nonshift : (match decide (j = k) with
      | true => match binInt op j a b with
        | some v => .ok (v, σ)
        | none => keep σ (flatOp P fr o)
      | false => .no "binOp: kinds" : Res (Value × Hp)) = .ok (v, σ') → op ≠ .shl ∧ op ≠ .shr → Did P ι σ w σ' v ((execOp ρ o).run P w) := by
    intro h hop2
    split at h
    · rename_i hjk
      have hjk : j = k := by simpa using hjk
      split at h
      · rename_i u hu
        exact fin u (by rw [← hjk]; exact binInt_run hu hop2 t) (vi hu) h
      · exact keep_flat hr he hns h
    · cases h
  have sh : (match shiftInt op j a b with
      | some v => .ok (v, σ)
      | none => keep σ (flatOp P fr o) : Res (Value × Hp)) = .ok (v, σ') → Did P ι σ w σ' v ((execOp ρ o).run P w) := by
    intro h
    split at h
    · rename_i u hu
      exact fin u (shiftInt_run hu k t) (vs hu) h
    · exact keep_flat hr he hns h
  unfold opBinInt at h
  cases op <;> first | exact sh h | exact nonshift h ⟨(by intro h; cases h), (by intro h; cases h)⟩

theorem eqGuard_pure {op : BinOp} {t : TypeId} {x y : Operand} {a b : Value} (h1 : a ≠ .nilIface) (h2 : ∀ cs, a ≠ .agg cs) : eqGuard op t x y a b = Pure.pure () := by
  unfold eqGuard
  cases op <;> first | rfl | (cases a <;> first | rfl | exact absurd rfl h1 | exact absurd rfl (h2 _))

theorem binOp_eql {t : TypeId} {x y : Value} (hx : (match x with | .pointer _ | .slice .. | .map _ | .func .. | .nilFunc => true | _ => false) = true) :
    Go.binOp .eql t x y = (do Pure.pure (.bool (← Op.equal t x y))) ∧ Go.binOp .neq t x y = (do Pure.pure (.bool (!(← Op.equal t x y)))) := by
  cases x <;> simp at hx <;> cases y <;> exact ⟨rfl, rfl⟩

theorem opEq_did (hr : Rel P ι σ w) (he : ERel ι fr ρ) {op : BinOp} {t yt : TypeId} {x y : Operand} (hop : o.op = .binOp op t x y yt) {v : Value} (h : opEq P σ op t (ev fr x) (ev fr y) = .ok (v, σ')) :
    Did P ι σ w σ' v ((execOp ρ o).run P w) := by
  unfold opEq at h
  have shape : ∀ {b : Bool}, same P σ t (ev fr x) (ev fr y) = .ok b → (match ρ x with | .pointer _ | .slice .. | .map _ | .func .. | .nilFunc => true | _ => false) = true := by
    intro b hb
    have hx := he x
    unfold same at hb
    generalize ev fr x = u at hx hb
    generalize ρ x = u' at hx ⊢
    cases hx <;> first | rfl | (exfalso; revert hb; cases P.underlying t with | none => intro hb; cases hb | some d => cases d <;> intro hb <;> cases hb)
  have go : ∀ {b : Bool}, same P σ t (ev fr x) (ev fr y) = .ok b → eqGuard op t x y (ρ x) (ρ y) = Pure.pure () := by
    intro b hb
    have := shape hb
    refine eqGuard_pure (fun h => ?_) (fun cs h => ?_) <;> rw [h] at this <;> cases this
  split at h
  · obtain ⟨b, h1, h⟩ := Res.bind_ok.1 h
    cases h
    have hrun := same_ok hr (he x) (he y) h1
    refine Did.quiet hr ?_ (.bool _) (v' := .bool b)
    simp [execOp, hop, go h1, (binOp_eql (shape h1)).1, hrun, Result.andThen]
  · obtain ⟨b, h1, h⟩ := Res.bind_ok.1 h
    cases h
    have hrun := same_ok hr (he x) (he y) h1
    refine Did.quiet hr ?_ (.bool _) (v' := .bool (!b))
    simp [execOp, hop, go h1, (binOp_eql (shape h1)).2, hrun, Result.andThen]
  · cases h

theorem OvRel.map (he : ERel ι fr ρ) (x : Option Operand) : OvRel ι (x.map (ev fr)) (x.map ρ) := by
  cases x with
  | none => exact .no
  | some x => exact .yes (he x)

theorem opConvert_did (hr : Rel P ι σ w) (he : ERel ι fr ρ) {src dst : TypeId} {x : Operand} (hop : o.op = .convert src dst x) {v : Value} (h : opConvert P fr σ o src dst x = .ok (v, σ')) :
    Did P ι σ w σ' v ((execOp ρ o).run P w) := by
  have hns : ∀ cs b, o.op ≠ .select cs b := by rw [hop]; intro _ _ h; cases h
  have hex : execOp ρ o = (do Pure.pure (.value (← Go.convert src dst (ρ x)))) := by simp [execOp, hop]
  have hvx := he x
  unfold opConvert at h
  split at h
  · rename_i ks k kv n h1 h2 h3
    cases h
    rw [h3] at hvx
    obtain ⟨q, hq⟩ : ∃ q, ρ x = .int q n := ⟨_, hvx.int_eq⟩
    refine Did.quiet hr ?_ (.int _ _) (v' := .int k (k.wrap n)) |> fun d => by rw [wr_eq]; exact d
    rw [hex]
    exact run_value (by simp [Go.convert, run_under h1, run_under h2, Result.andThen, hq, Conv.intToInt])
  · rename_i e h1 h2
    split at h
    · rename_i hue
      obtain ⟨l, h3, h⟩ := Res.bind_ok.1 h
      cases h
      refine Did.quiet hr ?_ (.string _) (v' := .string ⟨l.toArray⟩)
      rw [hex]
      refine run_value ?_
      by_cases hs : ∃ s, ev fr x = .string s
      · obtain ⟨s, hs⟩ := hs
        rw [hs] at hvx h3
        have : ρ x = .string s := hvx.str_eq
        simp [bytesOf] at h3
        subst h3
        simp [Go.convert, run_under h1, run_under h2, Result.andThen, this]
      · have hb := b2s_ok hr hvx h3 (fun s h => hs ⟨s, h⟩)
        have : ∃ a l' c, ρ x = .slice a l' c := by
          unfold bytesOf at h3
          generalize ev fr x = q at *
          generalize ρ x = q' at *
          cases hvx <;> first | exact ⟨_, _, _, rfl⟩ | exact absurd ⟨_, rfl⟩ hs | cases h3
        obtain ⟨a, l', c, hsl⟩ := this
        rw [hsl] at hb
        cases a <;> simp [Go.convert, run_under h1, run_under h2, Result.andThen, hsl, run_under hue, hb]
    · cases h
  · have h2 : P.underlying dst = some .unsafePointer := by assumption
    obtain ⟨hk, rfl⟩ := keep_ok.1 h
    clear h
    have h := hk
    obtain ⟨h3, h4⟩ := uptr_ok hr hvx h
    refine Did.quiet hr ?_ h4
    rw [hex]
    refine run_value ?_
    have hp : ∃ a, ρ x = .pointer a := by
      unfold uptr at h
      generalize ev fr x = q at *
      generalize ρ x = q' at *
      split at h <;> first | (cases hvx; exact ⟨_, rfl⟩) | cases h
    obtain ⟨a, hp⟩ := hp
    rw [hp] at h3 ⊢
    cases hu1 : P.underlying src with
    | none => unfold uptr at h; rw [hu1] at h; split at h <;> simp_all
    | some d => cases d <;> simp [Go.convert, run_under hu1, run_under h2, Result.andThen, h3]
  · have h1 : P.underlying src = some .unsafePointer := by assumption
    obtain ⟨hk, rfl⟩ := keep_ok.1 h
    clear h
    have h := hk
    obtain ⟨h3, h4⟩ := uptr_ok hr hvx h
    refine Did.quiet hr ?_ h4
    rw [hex]
    refine run_value ?_
    have hp : ∃ a, ρ x = .pointer a := by
      unfold uptr at h
      generalize ev fr x = q at *
      generalize ρ x = q' at *
      split at h <;> first | (cases hvx; exact ⟨_, rfl⟩) | cases h
    obtain ⟨a, hp⟩ := hp
    rw [hp] at h3 ⊢
    cases hu2 : P.underlying dst with
    | none => unfold uptr at h; rw [hu2] at h; split at h <;> simp_all
    | some d => cases d <;> simp [Go.convert, run_under h1, run_under hu2, Result.andThen, h3]
  · cases h
  · exact keep_flat hr he hns h

end Go.Cx

/-
  CxF: each operation that is no call of a function: 'plain_did'.
-/

namespace Go.Cx
variable {P : Program} [Tab P] {ι : Emb} {σ σ' : Hp} {w : World} {fr : Fr} {ρ : Operand → Value} {o : Oper}

theorem Did.of_row (hr : Rel P ι σ w) (hf : ι σ.next = .unborn) {l : List Value} {e : TypeId} {c' : Array Value} (h : LRel (VRel ι) l c'.toList) {v v' : Value} {r : Result Next}
    (hrun : r = .ok (.value v') { w with heap := w.heap.push (.cells c' e) }) (hv : VRel (ι.set σ.next (.live ⟨w.heap.size, none⟩)) v v') : Did P ι σ w (σ.alloc (row l e false)) v r := by
  obtain ⟨h1, h2, _, _⟩ := new_row (P := P) hr hf (e := e) h
  exact Did.val hrun h1 h2 hv

theorem ptr_new {n x : Nat} {g : Option (Nat × Nat)} : VRel (ι.set n (.live ⟨x, g⟩)) (.pointer (some ⟨n, 0, none⟩)) (.pointer (some ⟨x, 0, none⟩)) := .ptr (by simp [ARel, Emb.set])

theorem alloc_did (hr : Rel P ι σ w) (hf : Fresh ι σ.next σ'.next) {t : TypeId} (hop : o.op = .alloc t) {v : Value} (h : opAlloc P σ t = .ok (v, σ')) : Did P ι σ w σ' v ((execOp ρ o).run P w) := by
  unfold opAlloc at h
  obtain ⟨z, hz, h⟩ := Res.bind_ok.1 h
  cases h
  refine Did.of_row hr (hf _ (Nat.le_refl _) (by simp)) (cells_self (zero_rel hz ι)) ?_ ptr_new
  simp [execOp, hop, Instr.alloc, run_zero hz w, Result.andThen, newVar, newRow, newObj, Sem.run]

theorem box_did (hr : Rel P ι σ w) (hf : Fresh ι σ.next σ'.next) (he : ERel ι fr ρ) {t : TypeId} {x : Operand} (hop : o.op = .box t x) {v : Value} (h : opBox σ t (ev fr x) = .ok (v, σ')) : Did P ι σ w σ' v ((execOp ρ o).run P w) := by
  unfold opBox at h
  obtain ⟨hk, h⟩ := sure_ok.1 h
  cases h
  refine Did.of_row hr (hf _ (Nat.le_refl _) (by simp)) ((he x).cells hk) ?_ ptr_new
  simp [execOp, hop, Instr.box, Result.andThen, newVar, newRow, newObj, Sem.run]

theorem parts_rel (he : ERel ι fr ρ) {parts : Array (Nat × Operand)} (hk : (parts.toList.all fun x => known (ev fr x.2)) = true) :
    PRel ι (parts.toList.map fun x => (x.1, ev fr x.2)) (parts.toList.map fun x => (x.1, ρ x.2)) :=
  prel_map (f := fun x => ev fr x) (g := fun x => ρ x) (fun x hx => List.all_eq_true.1 hk x hx) fun x _ => he x.2

theorem build_did (hr : Rel P ι σ w) (he : ERel ι fr ρ) {t : TypeId} {parts : Array (Nat × Operand)} (hop : o.op = .build t parts) {v : Value} (h : opBuild P fr σ t parts = .ok (v, σ')) : Did P ι σ w σ' v ((execOp ρ o).run P w) := by
  unfold opBuild at h
  obtain ⟨z, hz, h⟩ := Res.bind_ok.1 h
  obtain ⟨hk, h⟩ := sure_ok.1 h
  refine did_prun hr h (fun u hu => build_rel hz (parts_rel he hk) hu) ?_
  have : (parts.map fun (x : Nat × Operand) => (x.1, ρ x.2)) = (parts.toList.map fun x => (x.1, ρ x.2)).toArray := by
    apply Array.toList_inj.1; simp
  simp only [execOp, hop]
  rw [← this]

theorem rows_self {z : Array Value} (h : LRel (VRel ι) z.toList z.toList) (n : Nat) (hn : z.size = 0 → n = 0) : LRel (VRel ι) (zeros z n).toList (zeros z n).toList := by
  unfold zeros
  exact lrel_self (range_cells h n hn)

theorem zeros_zero (z z' : Array Value) : zeros z 0 = zeros z' 0 := rfl

theorem buildSlice_did (hr : Rel P ι σ w) (hf : Fresh ι σ.next σ'.next) (he : ERel ι fr ρ) {t : TypeId} {len : Nat} {parts : Array (Nat × Operand)} (hop : o.op = .buildSlice t len parts) {v : Value}
    (h : opBuildSlice P fr σ t len parts = .ok (v, σ')) : Did P ι σ w σ' v ((execOp ρ o).run P w) := by
  unfold opBuildSlice at h
  obtain ⟨e, hel, h⟩ := Res.bind_ok.1 h
  obtain ⟨size, hsz, h⟩ := Res.bind_ok.1 h
  obtain ⟨hk, h⟩ := sure_ok.1 h
  simp only [Bool.and_eq_true, decide_eq_true_eq] at hk
  obtain ⟨⟨hlim, hzs⟩, hk⟩ := hk
  obtain ⟨z, hz, h⟩ := Res.bind_ok.1 h
  obtain ⟨hzc, h⟩ := sure_ok.1 h
  obtain ⟨cs, hcs, h⟩ := Res.bind_ok.1 h
  cases h
  have hzc : z.cells.size = size := by simpa using hzc
  have hu := elemT_ok hel
  obtain ⟨cs', f1, f2⟩ := fill_rel (parts_rel he hk) (rows_self (cells_self (zero_rel hz ι)) (len * size) (fun h => by rw [hzc] at h; rw [h]; rfl)) (need_ok.1 hcs)
  refine Did.of_row hr (hf _ (Nat.le_refl _) (by simp)) f2 ?_ (slice_new len len)
  have hparts : (parts.map fun (x : Nat × Operand) => (x.1, ρ x.2)).toList = (parts.toList.map fun x => (x.1, ρ x.2)) := by simp
  have hlim' : ¬ len * size > 2 ^ 24 := by omega
  have hrun : (Instr.buildSlice t len (parts.map fun (x : Nat × Operand) => (x.1, ρ x.2))).run P w = .ok (.slice (some ⟨w.heap.size, 0, none⟩) len len) { w with heap := w.heap.push (.cells cs' e) } := by
    unfold Instr.buildSlice
    by_cases h0 : len * size = 0
    · have f1' : Instr.fill (fun i => some (i * size, size)) (Array.map (fun i => (#[] : Array Value)[i % 0]!) (Array.range 0)) (parts.toList.map fun x => (x.1, ρ x.2)) = some cs' := by
        have e0 : Array.map (fun i => (#[] : Array Value)[i % 0]!) (Array.range 0) = zeros z.cells (len * size) := by rw [h0]; simp [zeros]
        rw [e0]; exact f1
      have e1 : Array.map (fun _ => (default : Value)) (Array.range 0) = zeros z.cells (len * size) := by rw [h0]; simp [zeros]
      simp [run_under hu, Result.andThen, run_sizeOf' hsz w, h0, newRow, newObj, Sem.run]
      rw [e1, f1]
      rfl
    · simp [run_under hu, Result.andThen, run_sizeOf' hsz w, hlim', h0, run_zero hz w, newRow, newObj, Sem.run]
      rw [zeros_eq, f1]
      rfl
  have : execOp ρ o = (do Pure.pure (Next.value (← Instr.buildSlice t len (parts.map fun (x : Nat × Operand) => (x.1, ρ x.2))))) := by simp only [execOp, hop]
  rw [this]
  exact run_value hrun

theorem wrap_small {m : Int} (h : 0 ≤ m) (h2 : m < 140737488355328) : IntKind.i64.wrap m = m := by
  cases m with
  | ofNat x =>
    rw [← wr_eq]
    have : Nat.blt x (lim .i64) = true := by rw [Nat.blt_eq]; simp [lim]; simp at h2; omega
    simp [wr, this]
  | negSucc x => exact absurd h (by omega)

theorem makeSlice_did (hr : Rel P ι σ w) (hf : Fresh ι σ.next σ'.next) (he : ERel ι fr ρ) {t : TypeId} {l c : Operand} (hop : o.op = .makeSlice t l c) {v : Value}
    (h : opMakeSlice P fr σ t l c = .ok (v, σ')) : Did P ι σ w σ' v ((execOp ρ o).run P w) := by
  unfold opMakeSlice at h
  obtain ⟨e, hel, h⟩ := Res.bind_ok.1 h
  obtain ⟨size, hsz, h⟩ := Res.bind_ok.1 h
  obtain ⟨bytes, hby, h⟩ := Res.bind_ok.1 h
  obtain ⟨z, hz, h⟩ := Res.bind_ok.1 h
  obtain ⟨hzc, h⟩ := sure_ok.1 h
  have hzc : z.cells.size = size := by simpa using hzc
  have hu := elemT_ok hel
  split at h
  · rename_i m k hm hk
    obtain ⟨hb, h⟩ := sure_ok.1 h
    simp only [Bool.and_eq_true, decide_eq_true_eq] at hb
    obtain ⟨⟨⟨h1, h2⟩, h3⟩, h4⟩ := hb
    cases h
    have hl : ρ l = .int .i64 m := (hm ▸ he l).int_eq
    have hc : ρ c = .int .i64 k := (hk ▸ he c).int_eq
    obtain ⟨i, hi, hib⟩ : ∃ i, P.info? e = some i ∧ i.bytes = bytes := by
      have := need_ok.1 hby
      cases hi : P.info? e with
      | none => simp [hi] at this
      | some i => simp [hi] at this; exact ⟨i, rfl, this⟩
    have hti : (typeInfo e).run P w = .ok i w := by simp [typeInfo, program, hi, Sem.run, Result.andThen]
    refine Did.of_row hr (hf _ (Nat.le_refl _) (by simp)) (rows_self (cells_self (zero_rel hz ι)) (k.toNat * size) (fun h => by rw [hzc] at h; rw [h]; rfl)) ?_ (slice_new m.toNat k.toNat)
    have e47 : (2 : Int) ^ 47 = 140737488355328 := by decide
    have e48 : (2 : Int) ^ 48 = 281474976710656 := by decide
    have wm : IntKind.i64.wrap m = m := wrap_small h1 (by rw [e47] at h4; omega)
    have wk : IntKind.i64.wrap k = k := wrap_small (by omega) (by rw [e47] at h4; exact h4)
    have htl : (decide (k < 0) || decide ((i.bytes : Int) * k > 2 ^ 48)) = false := by
      rw [hib]
      have : ¬ k < 0 := by omega
      have h5 : ¬ ((bytes : Int) * k > 2 ^ 48) := by rw [Int.mul_comm, e48]; rw [e47] at h3; omega
      simp only [this, h5, decide_false, Bool.or_false]
    have hc4 : ¬ (((k < 0 ∨ 281474976710656 < (i.bytes : Int) * k) ∨ m < 0) ∨ k < m) := by
      rw [hib]
      rw [e47] at h3
      have : bytes * k = k * bytes := Int.mul_comm _ _
      omega
    have hrun : (Instr.makeSlice t (ρ l) (ρ c)).run P w = .ok (.slice (some ⟨w.heap.size, 0, none⟩) m.toNat k.toNat) { w with heap := w.heap.push (.cells (zeros z.cells (k.toNat * size)) e) } := by
      unfold Instr.makeSlice
      rw [hl, hc]
      by_cases h0 : k.toNat * size = 0
      · simp [run_under hu, Result.andThen, asInt, asIntOf, hti, wm, wk, run_askRoom, run_sizeOf' hsz w, h0, hc4, newRow, newObj, Sem.run]
        rw [show Array.map (fun _ => (default : Value)) (Array.range 0) = zeros z.cells 0 by simp [zeros]]
      · simp [run_under hu, Result.andThen, asInt, asIntOf, hti, wm, wk, run_askRoom, run_sizeOf' hsz w, h0, hc4, run_zero hz w, newRow, newObj, Sem.run]
        rw [zeros_eq]
    have : execOp ρ o = (do Pure.pure (Next.value (← Instr.makeSlice t (ρ l) (ρ c)))) := by simp only [execOp, hop]
    rw [this]
    exact run_value hrun
  · cases h

theorem Did.unit {s : Sem Unit} {w' : World} (hrun : s.run P w = .ok () w') (h1 : Rel P ι σ' w') (h2 : Step ι σ w ι σ' w') {x : Sem Next} (hx : x = do s; Pure.pure .skip) : Did P ι σ w σ' undef (x.run P w) := by
  subst hx
  exact ⟨.skip, w', ι, undef, by simp [hrun, Result.andThen], .inr ⟨rfl, rfl⟩, h1, h2, VRel.undef⟩

theorem map_list {args : Array Operand} {l : List Operand} (h : args.toList = l) : args.map ρ = (l.map ρ).toArray := by
  apply Array.toList_inj.1; simp [h]

/-- A builtin's call. -/
theorem exec_builtin {c : Call} {b : Builtin} (hop : o.op = .call c) (hc : c.callee = .builtin b) : ∃ cs, execOp ρ o = Go.builtin b c.argTypes o.type cs (c.args.map ρ) := by
  exact ⟨_, by simp only [execOp, hop, resolve, hc]; rfl⟩

theorem builtin_did (hr : Rel P ι σ w) (hf : Fresh ι σ.next σ'.next) (he : ERel ι fr ρ) {c : Call} (hop : o.op = .call c) {v : Value} (h : opBuiltin P fr σ o c = .ok (v, σ')) : Did P ι σ w σ' v ((execOp ρ o).run P w) := by
  have hns : ∀ cs b, o.op ≠ .select cs b := by rw [hop]; intro _ _ h; cases h
  unfold opBuiltin at h
  split at h
  · rename_i b hb
    obtain ⟨cs, hex⟩ := exec_builtin (ρ := ρ) hop hb
    unfold builtin at h
    split at h
    · rename_i s x hl
      obtain ⟨v', w', ι', h1, h2, h3, h4⟩ := append_ok (ty := o.type) hr hf (he s) (he x) h
      refine Did.val ?_ h3 h4 h2
      rw [hex, map_list hl]
      exact run_value h1
    · rename_i s x hl
      obtain ⟨w', h1, h2, h3, h4, _⟩ := copy_ok (ty := o.type) hr (he s) (he x) h
      refine Did.val ?_ h3 h4 h2
      rw [hex, map_list hl]
      exact run_value h1
    · rename_i x hl
      obtain ⟨rfl, w', h1, h3, h4, _⟩ := clear_ok (ty := o.type) hr (he x) h
      refine Did.val ?_ h3 h4 VRel.undef
      rw [hex, map_list hl]
      exact run_value h1
    · rename_i m k hl
      obtain ⟨rfl, w', h1, h3, h4, _⟩ := delete_ok (ty := o.type) hr (he m) (he k) h
      refine Did.val ?_ h3 h4 VRel.undef
      rw [hex, map_list hl]
      exact run_value h1
    · -- len
      rename_i x hl
      have hx := he x
      have fin : ∀ {n : Int}, (Builtin.len_ c.argTypes o.type #[ρ x]).run P w = .ok (goInt n) w → Did P ι σ w σ (goInt n) ((execOp ρ o).run P w) := by
        intro n hrun
        refine Did.quiet hr ?_ (.int _ _)
        rw [hex, map_list hl]
        exact run_value hrun
      unfold opLen at h
      split at h
      · rename_i a0 n0 c0 hu hv
        obtain ⟨t, ht, hu⟩ := Option.bind_eq_some_iff.1 hu
        cases h
        rw [hv] at hx
        refine fin ?_
        have : ∃ a c', ρ x = .slice a n0 c' := by generalize ρ x = q at hx; cases hx <;> exact ⟨_, _, rfl⟩
        obtain ⟨a, c', hq⟩ := this
        unfold Builtin.len_
        simp [ht, run_under hu, Result.andThen, hq]
      · rename_i hu hv
        obtain ⟨t, ht, hu⟩ := Option.bind_eq_some_iff.1 hu
        cases h
        rw [hv] at hx
        refine fin ?_
        have hq : ρ x = .map none := by generalize ρ x = q at hx; cases hx; rfl
        unfold Builtin.len_
        simp [ht, run_under hu, Result.andThen, hq]
      · rename_i r hu hv
        obtain ⟨t, ht, hu⟩ := Option.bind_eq_some_iff.1 hu
        obtain ⟨m, hm, h⟩ := Res.bind_ok.1 h
        cases h
        rw [hv] at hx
        obtain ⟨r', hq, hb⟩ := hx.map_inv
        obtain ⟨s2, es', hs2, rfl, hw2, hmr, hg2⟩ := hr.mapAt hb hm
        have hget2 := run_getObj' (P := P) hw2 not_cells_map
        refine fin ?_
        unfold Builtin.len_
        simp [ht, run_under hu, Result.andThen, hq, hget2, hmr.1]
      · rename_i s hu hv
        obtain ⟨t, ht, hu⟩ := Option.bind_eq_some_iff.1 hu
        cases h
        rw [hv] at hx
        refine fin ?_
        unfold Builtin.len_
        simp [ht, run_under hu, Result.andThen, hx.str_eq]
      · rename_i n e hu
        obtain ⟨t, ht, hu⟩ := Option.bind_eq_some_iff.1 hu
        cases h
        refine fin ?_
        unfold Builtin.len_
        simp [ht, run_under hu, Result.andThen]
      · cases h
    · -- cap
      rename_i x hl
      have hx := he x
      have fin : ∀ {n : Int}, (Builtin.cap_ c.argTypes o.type #[ρ x]).run P w = .ok (goInt n) w → Did P ι σ w σ (goInt n) ((execOp ρ o).run P w) := by
        intro n hrun
        refine Did.quiet hr ?_ (.int _ _)
        rw [hex, map_list hl]
        exact run_value hrun
      unfold opCap at h
      split at h
      · rename_i l0 c0 hu hv
        obtain ⟨t, ht, hu⟩ := Option.bind_eq_some_iff.1 hu
        cases h
        rw [hv] at hx
        refine fin ?_
        have hq : ∃ n, ρ x = .slice none n c0 := by generalize ρ x = q at hx; cases hx; exact ⟨_, rfl⟩
        obtain ⟨_, hq⟩ := hq
        unfold Builtin.cap_
        simp [ht, run_under hu, Result.andThen, hq]
      · rename_i a l n hu hv
        obtain ⟨t, ht, hu⟩ := Option.bind_eq_some_iff.1 hu
        split at h
        · rename_i hb
          cases h
          rw [hv] at hx
          have hq : ∃ a' n', ρ x = .slice (some a') n' n := by
            generalize ρ x = q at hx
            cases hx with
            | @sl _ a' _ _ c' ha hcr =>
            obtain ⟨s, o', hs, hae, ho', hor⟩ := hr.block ha hb
            unfold CRel at hcr
            rw [hs] at hcr
            rcases hcr with hcr | ⟨_, _, hg, _⟩
            · exact ⟨_, _, by rw [hcr]⟩
            · cases hor with
              | cells hg' _ =>
                rcases hg' with ⟨hg', _⟩ | ⟨_, _, _, _, hop', _⟩
                · rw [hg'] at hg; cases hg
                · cases hop'
          obtain ⟨_, _, hq⟩ := hq
          refine fin ?_
          unfold Builtin.cap_
          simp [ht, run_under hu, Result.andThen, hq]
        · cases h
      · cases h
    · rename_i p n hl
      obtain ⟨w', h1, h2, h3, h4, _⟩ := ustring_ok (ty := o.type) hr (he p) (he n) h
      refine Did.val ?_ h3 h4 h2
      rw [hex, map_list hl]
      exact run_value h1
    · -- unsafe.SliceData
      rename_i x hl
      have hx := he x
      unfold opSliceData at h
      split at h
      · rename_i hv
        cases h
        rw [hv] at hx
        have hq : ∃ n c', ρ x = .slice none n c' := by generalize ρ x = q at hx; cases hx; exact ⟨_, _, rfl⟩
        obtain ⟨n', c', hq⟩ := hq
        refine Did.quiet hr ?_ .pnil
        rw [hex, map_list hl]
        refine run_value ?_
        simp only [List.map_cons, List.map_nil, hq]
        rfl
      · rename_i a l c0 hv
        split at h
        rotate_left
        · cases h
        rename_i ob hob
        cases h
        rw [hv] at hx
        have hq : ∃ a' n' c', ρ x = .slice (some a') n' c' ∧ c' ≠ 0 ∧ ARel ι a a' := by
          generalize ρ x = q at hx
          cases hx with
          | @sl _ a' _ _ c' ha hcr =>
          refine ⟨_, _, _, rfl, ?_, ha⟩
          obtain ⟨s, hs, _⟩ := hr.live _ _ hob
          unfold CRel at hcr
          simp only [hs] at hcr
          rcases hcr with h | ⟨_, _, _, _, h, _⟩ <;> omega
        obtain ⟨a', n', c', hq, hc0, ha⟩ := hq
        refine Did.quiet hr ?_ (.ptr ha)
        rw [hex, map_list hl]
        refine run_value ?_
        simp only [List.map_cons, List.map_nil, hq]
        have hdef : Builtin.unsafeSliceData_ c.argTypes o.type #[.slice (some a') n' c'] = (do
          if c' ≠ 0 then Pure.pure (.pointer (some a'))
          else if (← viewAt a'.block).isSome then Pure.pure (.pointer (some a'))
          else Pure.pure (.pointer (some ⟨← newObj (.view a' (← elemOf o.type)), 0, none⟩))) := rfl
        show (Builtin.unsafeSliceData_ c.argTypes o.type #[.slice (some a') n' c']).run P w = _
        rw [hdef]
        simp [hc0]
      · cases h
    · exact keep_flat hr he hns h
  · cases h

theorem plain0_did (hr : Rel P ι σ w) (hf : Fresh ι σ.next σ'.next) (he : ERel ι fr ρ) {v : Value} (h : plain0 P fr σ o = .ok (v, σ')) : Did P ι σ w σ' v ((execOp ρ o).run P w) := by
  unfold plain0 at h
  split at h
  · rename_i x hop
    cases h
    exact Did.quiet hr (by simp [execOp, hop]) (he x)
  · rename_i x hop
    cases h
    exact Did.quiet hr (by simp [execOp, hop]) (he x)
  · rename_i c a b hop
    unfold opPick at h
    have hc := he c
    split at h
    · rename_i hv
      cases h
      rw [hv] at hc
      exact Did.quiet hr (by simp [execOp, hop, hc.bool_eq, asBool, Result.andThen]) (he a)
    · rename_i hv
      cases h
      rw [hv] at hc
      exact Did.quiet hr (by simp [execOp, hop, hc.bool_eq, asBool, Result.andThen]) (he b)
    · cases h
  · rename_i t hop; exact alloc_did hr hf hop h
  · rename_i t x hop; exact box_did hr hf he hop h
  · rename_i t parts hop; exact build_did hr he hop h
  · rename_i t len parts hop; exact buildSlice_did hr hf he hop h
  · rename_i t a hop
    obtain ⟨h, rfl⟩ := keep_ok.1 h
    obtain ⟨v', h1, h2⟩ := load_ok hr (he a) h
    exact Did.quiet hr (by simp [execOp, hop, h1, Result.andThen]) h2
  · rename_i t a x hop
    obtain ⟨hs, hv⟩ := done_ok.1 h
    subst hv
    obtain ⟨w', h1, h2, h3, _⟩ := store_ok hr (he a) (he x) hs
    exact Did.unit h1 h2 h3 (by simp only [execOp, hop])
  · rename_i x hop
    have hx := he x
    unfold opNilCheck at h
    split at h
    · rename_i a hv
      cases h
      rw [hv] at hx
      obtain ⟨a', hq, ha⟩ := hx.ptr_inv
      exact Did.quiet hr (by simp [execOp, hop, hq]) (.ptr ha)
    · rename_i f a c hv
      cases h
      rw [hv] at hx
      have hq : ∃ a' c', ρ x = .func (.func f) a' c' := by
        generalize ρ x = q at hx
        cases hx with
        | func hf' _ _ _ _ => cases hf'; exact ⟨_, _, rfl⟩
      obtain ⟨a', c', hq⟩ := hq
      rw [hq] at hx
      exact Did.quiet hr (by simp [execOp, hop, hq]) hx
    · cases h
  · rename_i op t x y yt hop
    have hns : ∀ cs b, o.op ≠ .select cs b := by rw [hop]; intro _ _ h; cases h
    unfold opBin at h
    split at h
    · rename_i j a k b hx hy
      exact binInt_did hr he hop hx hy h
    · split at h
      · exact keep_flat hr he hns h
      · exact opEq_did hr he hop h
  · rename_i src dst x hop; exact opConvert_did hr he hop h
  · rename_i t x hop
    refine did_prun hr h (s' := Instr.makeInterface t (ρ x)) (fun u hu => ?_) (by simp only [execOp, hop])
    unfold Instr.makeInterface at hu ⊢
    simp only [prun_bind, prun_underlying] at hu ⊢
    cases hq : P.underlying t with
    | none => simp [hq] at hu
    | some d =>
      simp only [hq, Option.bind_some] at hu ⊢
      cases d <;> simp only [prun_stuck, prun_pure, reduceCtorEq, Option.some.injEq] at hu ⊢ <;> (subst hu; exact ⟨_, rfl, .iface t (he x)⟩)
  · rename_i fn first captured hop
    unfold opMakeFunc at h
    split at h
    rotate_left
    · cases h
    rename_i f
    cases h
    have hl : ∀ (a : Array Operand), LRel (VRel ι) (a.toList.map (ev fr)) (a.toList.map ρ) := fun a => LRel.map_same _ _ _ fun x _ => he x
    have hm : ∀ (a : Array Operand), a.map ρ = (a.toList.map ρ).toArray := fun a => map_list rfl
    refine Did.quiet hr (v' := .func (.func f) (first.map ρ) (captured.map ρ)) (by simp [execOp, hop, Instr.makeFunc, Result.andThen]) ?_
    have hget : ∀ (a : Array Operand) (i : Nat) (x y : Value), (a.toList.map (ev fr)).toArray[i]? = some x → (a.map ρ)[i]? = some y → VRel ι x y := by
      intro a i x y hx hy
      rw [hm] at hy
      exact (hl a).get i x y (by simpa using hx) (by simpa using hy)
    exact .func (.same _ (fun l h => by cases h)) (by simp) (hget first) (by simp) (hget captured)
  · rename_i t r hop
    unfold opMakeMap at h
    split at h
    · cases h
      obtain ⟨k1, k2⟩ := hr.alloc (hf _ (Nat.le_refl _) (by simp)) (g := none) (ORel.map (P := P) (ι := ι) (s := ⟨w.heap.size, none⟩) (es := #[]) (es' := #[]) (clock := 0) rfl (fun i x y hx => by simp at hx))
      refine Did.val (v' := .map (some w.heap.size)) ?_ k1 k2 (.map (by simp [BRel, Emb.set]))
      simp [execOp, hop, Instr.makeMap, newObj, Sem.run, Result.andThen]
    · cases h
  · rename_i t l c hop; exact makeSlice_did hr hf he hop h
  · rename_i t x lo hi mx hop
    unfold opSlice at h
    obtain ⟨hle, h⟩ := sure_ok.1 h
    obtain ⟨h, rfl⟩ := keep_ok.1 h
    obtain ⟨v', h1, h2⟩ := slice_ok hr (he x) (OvRel.map he lo) (OvRel.map he hi) (OvRel.map he mx) (fun a l c e => by rw [e] at hle; simpa [lenOk] using hle) h
    exact Did.quiet hr (by simp [execOp, hop, h1, Result.andThen]) h2
  · rename_i s x f hop
    exact did_prun hr h (fun u hu => fieldAt_rel (he x) hu) (by simp only [execOp, hop])
  · rename_i t x f hop
    exact did_prun hr h (fun u hu => field_rel (he x) hu) (by simp only [execOp, hop])
  · rename_i t x i hop
    exact did_prun hr h (fun u hu => indexAt_rel (he x) (he i) hu) (by simp only [execOp, hop])
  · rename_i t x i hop
    exact did_prun hr h (fun u hu => index_rel (he x) (he i) hu) (by simp only [execOp, hop])
  · rename_i t m k ok hop
    obtain ⟨h, rfl⟩ := keep_ok.1 h
    obtain ⟨v', h1, h2⟩ := lookup_ok hr (he m) (he k) h
    exact Did.quiet hr (by simp [execOp, hop, h1, Result.andThen]) h2
  · rename_i t m k x hop
    obtain ⟨hs, hv⟩ := done_ok.1 h
    subst hv
    obtain ⟨w', h1, h2, h3, _⟩ := mapUpdate_ok hr (he m) (he k) (he x) hs
    exact Did.unit h1 h2 h3 (by simp only [execOp, hop])
  · rename_i t x hop
    have hn : σ'.next = σ.next + 1 := by
      unfold range at h
      obtain ⟨q, _, h⟩ := Res.bind_ok.1 h
      cases h; rfl
    obtain ⟨v', w', ι', h1, h2, h3, h4⟩ := range_ok hr (hf _ (Nat.le_refl _) (by omega)) (he x) h
    exact Did.val (by simp [execOp, hop, h1, Result.andThen]) h3 h4 h2
  · rename_i it isS hop
    obtain ⟨v', w', h1, h2, h3, h4, _⟩ := next_ok (ty := o.type) hr (he it) h
    exact Did.val (by simp [execOp, hop, h1, Result.andThen]) h3 h4 h2
  · rename_i it hop
    obtain ⟨h, rfl⟩ := keep_ok.1 h
    obtain ⟨v', h1, h2⟩ := entry_ok hr (he it) h
    exact Did.quiet hr (by simp [execOp, hop, h1, Result.andThen]) h2
  · rename_i t i hop
    have ht := he t
    unfold opExtract at h
    split at h
    · rename_i vs hv
      obtain ⟨hsz, h⟩ := sure_ok.1 h
      obtain ⟨hk, hσ⟩ := keep_ok.1 h
      subst hσ
      rw [hv] at ht
      have hvi := need_ok.1 hk
      generalize hq : ρ t = q at ht
      cases ht with
      | @tuple _ vs' hs hc =>
        have hlt : i < vs'.size := by have := (Array.getElem?_eq_some_iff.1 hvi).1; omega
        exact Did.quiet hr (v' := vs'[i]) (by simp [execOp, hop, hq, Instr.extract, hlt, Result.andThen]) (hc i _ _ hvi (by simp [hlt]))
      | unk => simp [isUnk] at hsz
    · cases h
  · rename_i op t x hop
    unfold opUn at h
    have hx := he x
    split at h
    · rename_i hfl
      have hq := flat_eq 1 hfl hx
      obtain ⟨⟨v1, σ1⟩, h, h2⟩ := Res.bind_ok.1 h
      obtain ⟨hfv, h2⟩ := sure_ok.1 h2
      cases h2
      obtain ⟨hpr, hσ⟩ := pr_ok.1 h
      subst hσ
      have hv : VRel ι v v := flat_refl ι 1 v hfv
      exact Did.quiet hr (by simp [execOp, hop, hq, prun_run hpr w, Result.andThen]) hv
    · cases h
  · rename_i c hop; exact builtin_did hr hf he hop h
  · cases h

end Go.Cx
