/-
  CxY: records of loops; a function's way out.
-/
import Derived.Test.YtglglgkaadfhpaaGreatDoorXW
set_option linter.all false
namespace Go.Cx
variable {P : Program} [Tab P] [TabOk P] {ι : Emb} {σ : Hp} {w : World}

theorem loop_at {l l' : Nat} {r : Loop} (hr : Rel P ι σ w) (hb : BRel ι l l') (h : loopAt σ l = .ok r) :
    ∃ s r', ι l = .live s ∧ l' = s.x ∧ σ.get l = some (.loop r) ∧ w.heap[l']? = some (.loop r') ∧ LoopRel ι r r' := by
  unfold loopAt at h
  split at h
  · rename_i r1 hg
    cases h
    obtain ⟨s, hs, o', ho', hor⟩ := hr.live l _ hg
    have hl : l' = s.x := by unfold BRel at hb; simpa [hs] using hb
    subst hl
    cases hor with
    | loop hl => exact ⟨s, _, hs, rfl, hg, ho', hl⟩
  · cases h

theorem not_cells_loop {r : Loop} : ∀ a b d, Obj.loop r ≠ .cells a b d := by intro _ _ _ h; cases h

theorem get_loop {l : Nat} {r : Loop} (hw : w.heap[l]? = some (.loop r)) : (Instr.getLoop l).run P w = .ok r w := by
  unfold Instr.getLoop
  simp [run_getObj' hw not_cells_loop, Result.andThen]

theorem put_loop {l : Nat} {s : Slot} {r r' q q' : Loop} (hr : Rel P ι σ w) (hs : ι l = .live s) (hg : σ.get l = some (.loop r)) (hw : w.heap[s.x]? = some (.loop r')) (hq : LoopRel ι q q') :
    ∃ w', (setObj s.x (.loop q')).run P w = .ok () w' ∧ Rel P ι (putLoop σ l q) w' ∧ Step ι σ w ι (putLoop σ l q) w' ∧ w'.heap[s.x]? = some (.loop q') := by
  obtain ⟨h1, h2⟩ := hr.put (P := P) hg hs (.loop hq)
  refine ⟨_, run_setObj' hw not_cells_loop, h1, h2, ?_⟩
  have := hr.bound l s hs
  simp [this]

@[simp] theorem putLoop_next (σ : Hp) (l : Nat) (q : Loop) : (putLoop σ l q).next = σ.next := rfl

theorem putLoop_get (σ : Hp) (l : Nat) (q : Loop) : (putLoop σ l q).get l = some (.loop q) := by simp [putLoop, Hp.get_put]

/-! ### Results -/
theorem var_ok (hr : Rel P ι σ w) {t : TypeId} {x x' v : Value} (hx : VRel ι x x') (h : load P σ t x = .ok v) : ∃ v', (do loadVar t (← asAddr x')).run P w = .ok v' w ∧ VRel ι v v' := by
  obtain ⟨v', h1, h2⟩ := load_ok hr hx h
  refine ⟨v', ?_, h2⟩
  unfold load at h
  obtain ⟨a, ha, _⟩ := Res.bind_ok.1 h
  rw [addrOf_ok ha] at hx
  obtain ⟨a', rfl, _⟩ := hx.ptr_inv
  rw [← h1]
  simp [Instr.loadAt, asAddr, Instr.sureAddr, Result.andThen]

def resG (tmps : Array Value) : ResultVar → Sem Value
  | .tmp t => pure (tmps.getD t undef)
  | .cell a t => do loadVar t (← asAddr (tmps.getD a undef))

theorem results_eq (fn : Func) (tmps : Array Value) : results fn tmps = (do let vs ← fn.results.mapM (resG tmps); Pure.pure (if h : vs.size = 1 then vs[0] else .tuple vs)) := rfl

theorem result_ok (hr : Rel P ι σ w) {fr : Fr} {tmps : Array Value} (hf : FRel ι fr tmps) {x : ResultVar} {v : Value} (h : result P fr σ x = .ok v) :
    ∃ v', (resG tmps x).run P w = .ok v' w ∧ VRel ι v v' := by
  cases x with
  | tmp t => cases h; exact ⟨_, rfl, hf.2 t⟩
  | cell a t => exact var_ok hr (hf.2 a) h

theorem results_list (hr : Rel P ι σ w) {fr : Fr} {tmps : Array Value} (hf : FRel ι fr tmps) : ∀ {l : List ResultVar} {vs : List Value}, resultsOf P fr σ l = .ok vs →
    ∃ vs', (l.mapM (resG tmps)).run P w = .ok vs' w ∧ LRel (VRel ι) vs vs' := by
  intro l
  induction l with
  | nil => intro vs h; cases h; exact ⟨[], rfl, .nil⟩
  | cons x l ih =>
    intro vs h
    unfold resultsOf at h
    obtain ⟨v, h1, h⟩ := Res.bind_ok.1 h
    obtain ⟨us, h2, h⟩ := Res.bind_ok.1 h
    cases h
    obtain ⟨v', k1, k2⟩ := result_ok hr hf h1
    obtain ⟨us', k3, k4⟩ := ih h2
    refine ⟨v' :: us', ?_, .cons k2 k4⟩
    rw [List.mapM_cons, Sem.run_bind, k1]
    simp only [Result.andThen, Sem.run_bind, Sem.run_pure, k3]

def oneOf (vs : List Value) : Value := match vs with
  | [v] => v
  | _ => .tuple vs.toArray

theorem results_ok (hr : Rel P ι σ w) {fr : Fr} {tmps : Array Value} (hf : FRel ι fr tmps) {fn : Func} {vs : List Value} (h : resultsOf P fr σ fn.results.toList = .ok vs) :
    ∃ v', (results fn tmps).run P w = .ok v' w ∧ VRel ι (oneOf vs) v' := by
  obtain ⟨vs', h1, h2⟩ := results_list hr hf h
  have hl := h2.length
  refine ⟨if h : vs'.toArray.size = 1 then vs'.toArray[0] else .tuple vs'.toArray, ?_, ?_⟩
  · rw [results_eq, Array.mapM_eq_mapM_toList]
    simp [h1, Result.andThen]
  · cases h2 with
    | nil => simpa [oneOf] using VRel.tuple_list (ι := ι) .nil
    | cons hv ht =>
      cases ht with
      | nil => simpa [oneOf] using hv
      | cons hv2 ht2 =>
        have := VRel.tuple_list (.cons hv (.cons hv2 ht2))
        simpa [oneOf] using this

/-! ### Marks -/
theorem unmark_ok {F : Fence} {fn : Func} {R : Ending → World → Prop} {tmps : Array Value} {ms : List Nat} {ds : List Deferred} (hd : DRel ι ms ds) : ∀ {σ σ' : Hp} {w : World}, Rel P ι σ w → unmark ms σ = .ok σ' →
    (∀ w', Rel P ι σ' w' → Step ι σ w ι σ' w' → LeavesIn F 0 P fn tmps R [] .returning w') → LeavesInM F 0 P fn tmps R ds .returning w := by
  induction hd with
  | nil =>
    intro σ σ' w hr h hR
    cases h
    exact hR w hr (Step.refl _ _ _)
  | @cons m r ms ds hb _ ih =>
    intro σ σ' w hr h hR
    unfold unmark at h
    split at h
    · rename_i hg
      obtain ⟨s, hs, o', ho', hor⟩ := hr.live m _ hg
      have hl : r = s.x := by unfold BRel at hb; simpa [hs] using hb
      subst hl
      cases hor
      obtain ⟨h1, h2⟩ := hr.put (P := P) hg hs .shut
      refine ⟨by simp, .inl ⟨s.x, _, rfl, ?_, ih h1 h fun w' k1 k2 => hR w' k1 (h2.trans h1 k2)⟩⟩
      unfold Instr.takeDeferred
      simp [run_getObj' ho' (by intro _ _ _ h; cases h), run_setObj' (P := P) (o1 := .deferred none) ho' (by intro _ _ _ h; cases h), Result.andThen]
    · cases h

end Go.Cx

/-
  CxZ: calls, rounds.
-/

namespace Go.Cx
variable {P : Program} [Tab P] [TabOk P]

structure Env (P : Program) [Tab P] (O : Oracle) : Prop where
  room : Room P
  mixed : P.follows .mixedOrders = true
  named : ∀ (f : Nat) fn, P.funcs[f]? = some fn → fn.body.isSome = true → fn.name ≠ "runtime.NumGoroutine"
  ora : ∀ {F : Fence}, Opn F → ∀ {f : FuncId} {args : List Value} {σ : Hp} {v : Value} {ι : Emb} {w : World} {args' : Array Value}, O f args σ = some v → Rel P ι σ w → Free ι σ.next → LRel (VRel ι) args args'.toList →
    Gives F P (After P ι σ w σ v) ((callFunc f args').run P w)
  ext : ∀ {F : Fence}, Opn F → ∀ {f : FuncId} {fn : Func} {args : List Value} {σ σ' : Hp} {v : Value} {ι : Emb} {w : World} {args' : Array Value}, P.funcs[f]? = some fn → fn.body = none → extern P fn args σ = .ok (v, σ') →
    Rel P ι σ w → Free ι σ.next → LRel (VRel ι) args args'.toList → Gives F P (After P ι σ w σ' v) ((callFunc f args').run P w)

theorem run_enter {f : FuncId} {fn : Func} (hf : P.funcs[f]? = some fn) (hb : fn.body.isSome = true) (hn : fn.name ≠ "runtime.NumGoroutine") (args : Array Value) (w : World) : (callFunc f args).run P w = .ok (.enter f args) w := by
  have : fn.body.isNone = false := by cases h : fn.body <;> simp [h] at hb ⊢
  have h2 : ¬ fn.body = none := fun h => by rw [h] at hb; cases hb
  simp [callFunc, program, Sem.run, hf, hn, h2]

@[simp] theorem fill_n : ∀ (l : List Value) (s : Nat) (fr : Fr), (Fr.fill s l fr).n = fr.n
  | [], _, _ => rfl
  | v :: l, s, fr => by rw [Fr.fill, fill_n l]; simp

theorem fill_at : ∀ (l : List Value) (s : Nat) (fr : Fr) (j : Nat), (Fr.fill s l fr).at j = if j < fr.n ∧ s ≤ j ∧ j < s + l.length then l.getD (j - s) undef else fr.at j := by
  intro l
  induction l with
  | nil =>
    intro s fr j
    have : ¬ (j < fr.n ∧ s ≤ j ∧ j < s + 0) := by omega
    simp only [Fr.fill, List.length_nil, this, if_false]
  | cons v l ih =>
    intro s fr j
    rw [Fr.fill, ih, Fr.n_put, Fr.at_put, List.length_cons]
    by_cases h1 : j < fr.n ∧ s + 1 ≤ j ∧ j < s + 1 + l.length
    · have h2 : j < fr.n ∧ s ≤ j ∧ j < s + (l.length + 1) := by omega
      rw [if_pos h1, if_pos h2]
      have : j - s = (j - (s + 1)) + 1 := by omega
      rw [this, List.getD_cons_succ]
    · rw [if_neg h1]
      by_cases h3 : j = s ∧ s < fr.n
      · obtain ⟨rfl, h3⟩ := h3
        have h2 : j < fr.n ∧ j ≤ j ∧ j < j + (l.length + 1) := by omega
        rw [if_pos ⟨rfl, h3⟩, if_pos h2]
        simp
      · have h2 : ¬ (j < fr.n ∧ s ≤ j ∧ j < s + (l.length + 1)) := by omega
        rw [if_neg h3, if_neg h2]

theorem frel_of {ι : Emb} {args : List Value} {args' : Array Value} {n k : Nat} (h : LRel (VRel ι) args args'.toList) (hk : k = max args.length n) :
    FRel ι (Fr.of args k) (args' ++ Array.replicate (n - args'.size) undef) := by
  have hl := h.length
  simp only [Array.length_toList] at hl
  subst hk
  refine ⟨?_, fun i => ?_⟩
  · simp [Fr.of]; omega
  · unfold Fr.of
    rw [fill_at]
    by_cases hi : i < args.length
    · have h1 : i < (⟨.nil, max args.length n⟩ : Fr).n ∧ 0 ≤ i ∧ i < 0 + args.length := ⟨by simp; omega, by omega, by omega⟩
      rw [if_pos h1]
      have h2 : i < args'.size := by omega
      have : (args' ++ Array.replicate (n - args'.size) undef).getD i undef = args'[i] := by
        simp [Array.getElem?_append, h2]
      rw [this]
      refine h.get i _ _ ?_ (by simp [h2])
      simp [hi]
    · have h1 : ¬ (i < (⟨.nil, max args.length n⟩ : Fr).n ∧ 0 ≤ i ∧ i < 0 + args.length) := by omega
      rw [if_neg h1]
      have h2 : ¬ i < args'.size := by omega
      have e1 : (⟨.nil, max args.length n⟩ : Fr).at i = undef := by simp [Fr.at, Tr.get_nil]
      have e2 : (args' ++ Array.replicate (n - args'.size) undef).getD i undef = undef := by
        simp only [Array.getD_eq_getD_getElem?, Array.getElem?_append, h2, if_false, Array.getElem?_replicate]
        split <;> rfl
      rw [e1, e2]
      exact VRel.undef

theorem oneOf_ok {vs : List Value} {σ2 σ' : Hp} {v : Value} (h : (match vs with
        | [v] => Res.ok (v, σ2)
        | _ => .ok (.tuple vs.toArray, σ2)) = .ok (v, σ')) : v = oneOf vs ∧ σ' = σ2 := by
  rcases vs with _ | ⟨a, _ | ⟨b, l⟩⟩ <;> cases h <;> exact ⟨rfl, rfl⟩

theorem call_ok {R : Rec} {O : Oracle} (henv : Env P O) (hc : CodeSound P R.code) {F : Fence} (ho : Opn F) {f : FuncId} {args : List Value} {σ σ' : Hp} {v : Value} {ι : Emb} {w : World} {args' : Array Value}
    (h : callStep P R O f args σ = .ok (v, σ')) (hr : Rel P ι σ w) (hfree : Free ι σ.next) (ha : LRel (VRel ι) args args'.toList) : Gives F P (After P ι σ w σ' v) ((callFunc f args').run P w) := by
  unfold callStep at h
  split at h
  · rename_i u hu
    cases h
    exact henv.ora ho hu hr hfree ha
  · obtain ⟨fn, hf, h⟩ := Res.bind_ok.1 h
    have hf := need_ok.1 hf
    split at h
    · rename_i hb
      exact henv.ext ho hf hb h hr hfree ha
    · rename_i c hb
      obtain ⟨⟨ex, ac', σ1⟩, h1, h⟩ := Res.bind_ok.1 h
      rw [run_enter hf (by rw [hb]; rfl) (henv.named f fn hf (by rw [hb]; rfl))]
      have hp : Opn F.plain := ⟨ho.fn, ho.depth, ho.alive⟩
      have hlen := ha.length
      simp only [Array.length_toList] at hlen
      show CallsIn F.plain 0 P f args' w _
      refine callsIn_of_wp_marks hf hb (ho.fn f) ?_
      refine hc.ok hp (ι := ι) h1 hr hfree trivial (frel_of ha rfl) .nil _ fun a' w1 ⟨ι1, k1, k2, k3, k4⟩ => ?_
      have key : ∀ {vs : List Value} {σ2 : Hp}, unmark ac'.marks σ1 = .ok σ2 → resultsOf P ac'.fr σ2 fn.results.toList = .ok vs → v = oneOf vs → σ' = σ2 →
          LeavesInM F.plain 0 P fn a'.tmps (fun e w'' => ∃ u, e = .returned u ∧ After P ι σ w σ' v u w'') a'.defers .returning w1 := by
        intro vs σ2 q1 q2 q3 q4
        subst q3 q4
        refine unmark_ok k4 k1 q1 fun w2 m1 m2 => ?_
        obtain ⟨u, m3, m4⟩ := results_ok m1 k3 q2
        exact ⟨u, m3, u, rfl, ι1, m1, k2.trans k1 m2, m4⟩
      cases ex with
      | exit id => cases h
      | normal =>
        simp only at h
        obtain ⟨σ2, h2, h⟩ := Res.bind_ok.1 h
        obtain ⟨vs, h3, h⟩ := Res.bind_ok.1 h
        obtain ⟨e1, e2⟩ := oneOf_ok h
        exact key h2 h3 e1 e2
      | ret =>
        simp only at h
        obtain ⟨σ2, h2, h⟩ := Res.bind_ok.1 h
        obtain ⟨vs, h3, h⟩ := Res.bind_ok.1 h
        obtain ⟨e1, e2⟩ := oneOf_ok h
        exact key h2 h3 e1 e2

end Go.Cx

/-
  CxZa: rounds of a range over a function.
-/

namespace Go.Cx
variable {P : Program} [Tab P] [TabOk P]

theorem frel_list {ι : Emb} {xs ys : Array Value} (hs : xs.size = ys.size) (h : ∀ (i : Nat) x y, xs[i]? = some x → ys[i]? = some y → VRel ι x y) : FRel ι (Fr.of xs.toList xs.size) ys := by
  have hl : LRel (VRel ι) xs.toList ys.toList := LRel.of_array hs h
  have := frel_of (n := 0) hl (k := xs.size) (by simp)
  simpa using this

theorem frel_fold {ι : Emb} : ∀ {ps : List Tmp} {args args' : List Value} {fr : Fr} {tmps : Array Value}, LRel (VRel ι) args args' → FRel ι fr tmps →
    FRel ι ((ps.zip args).foldl (fun t x => t.put x.1 x.2) fr) ((ps.zip args').foldl (fun t x => t.setIfInBounds x.1 x.2) tmps) := by
  intro ps
  induction ps with
  | nil => intro args args' fr tmps _ hf; exact hf
  | cons p ps ih =>
    intro args args' fr tmps ha hf
    cases ha with
    | nil => exact hf
    | cons h t => exact ih t (hf.put h p)

theorem round_fold (ps : Array Tmp) (args : Array Value) (tmps : Array Value) : (ps.zip args).foldl (fun tmps (t, a) => tmps.setIfInBounds t a) tmps = (ps.toList.zip args.toList).foldl (fun t x => t.setIfInBounds x.1 x.2) tmps := by
  rw [← Array.foldl_toList, Array.toList_zip]

theorem yield_ok {R : Rec} (hc : CodeSound P R.code) {F : Fence} (ho : Opn F) {l l' : Nat} {args : List Value} {σ σ' : Hp} {v : Value} {ι : Emb} {w : World} {args' : Array Value}
    (h : yieldStep R l args σ = .ok (v, σ')) (hr : Rel P ι σ w) (hfree : Free ι σ.next) (hb : BRel ι l l') (ha : LRel (VRel ι) args args'.toList) :
    Gives F P (After P ι σ w σ' v) ((Instr.yield l' args').run P w) := by
  unfold yieldStep at h
  obtain ⟨r, h1, h⟩ := Res.bind_ok.1 h
  obtain ⟨hsz, h⟩ := sure_ok.1 h
  obtain ⟨⟨ex, ac1, σ1⟩, h2, h⟩ := Res.bind_ok.1 h
  obtain ⟨s, r', hs, rfl, hg, hw, hl⟩ := loop_at hr hb h1
  have hlen := ha.length
  simp only [Array.length_toList] at hlen
  have hsz' : ¬ args'.size ≠ r'.params.size := by rw [hl.params]; simp at hsz; omega
  have hrun : (Instr.yield s.x args').run P w = .ok (.round s.x r'.fn ((r'.params.zip args').foldl (fun tmps (t, a) => tmps.setIfInBounds t a) r'.tmps) r'.assign r'.body) w := by
    unfold Instr.yield
    simp only [Sem.run_bind, get_loop hw, Result.andThen, hsz', if_false, Sem.run_pure]
  rw [hrun]
  cases ex with
  | exit id => cases h
  | ret => cases h
  | normal =>
    simp only at h
    obtain ⟨q, h3, h⟩ := Res.bind_ok.1 h
    obtain ⟨hready, h⟩ := sure_ok.1 h
    obtain ⟨⟨ex2, ac2, σ2⟩, h4, h⟩ := Res.bind_ok.1 h
    obtain ⟨t, h5, h⟩ := Res.bind_ok.1 h
    simp only at h h3 h4 h5
    have hfr : FRel ι ((r.params.toList.zip args).foldl (fun t x => t.put x.1 x.2) (Fr.of r.tmps.toList r.tmps.size)) ((r'.params.zip args').foldl (fun tmps (t, a) => tmps.setIfInBounds t a) r'.tmps) := by
      rw [round_fold, hl.params]
      exact frel_fold ha (frel_list hl.size hl.tmps)
    show RoundIn F 0 P s.x r'.fn _ r'.assign r'.body w _
    refine roundIn_of_wpIn (ho.fn _) ?_
    rw [hl.assign, hl.body]
    refine hc.ok (ho.inRound s.x) h2 hr hfree hb hfr .nil _ fun a1 w1 ⟨ι1, k1, k2, k3, k4⟩ => ?_
    have hle1 := k2.le (hfree.fresh _)
    have hfree1 := hfree.step hr k2
    obtain ⟨s1, q', hs1, hx1, hg1, hw1, hl1⟩ := loop_at k1 (hb.mono hle1) h3
    have hq : q'.state = .ready := by rw [hl1.state]; simpa using hready
    obtain ⟨w2, p1, p2, p3, p4⟩ := put_loop (P := P) (q := { q with state := .busy }) (q' := { q' with state := .busy }) k1 hs1 hg1 (hx1 ▸ hw1) ⟨rfl, hl1.pending, hl1.params, hl1.assign, hl1.body, hl1.size, hl1.tmps, hl1.defers⟩
    refine ⟨w2, ?_, ?_⟩
    · rw [hx1] at hw1 ⊢
      unfold Instr.beginRound
      simp only [Sem.run_bind, get_loop hw1, Result.andThen, p1, hq, Sem.run_pure]
    · refine hc.ok (ho.inRound s.x) h4 p2 (by simpa using hfree1) (hb.mono hle1) k3 k4 _ fun a2 w3 ⟨ι2, m1, m2, m3, m4⟩ => ?_
      have hle2 : Le ι1 ι2 := m2.le (by simpa using hfree1.fresh _)
      obtain ⟨s2, t', hs2, hx2, hg2, hw2, hl2⟩ := loop_at m1 ((hb.mono hle1).mono hle2) h5
      have fin : ∀ (j : Option Code) (b : Bool) (tt : Loop) (st : LoopState), st = (if j.isNone then .ready else .done) → tt = { t with state := st, pending := j } → b = j.isNone → v = .bool b → σ' = putLoop σ2 l tt →
          ∃ u w4, (Instr.endRound s.x j).run P w3 = .ok u w4 ∧ ∃ u', Ending.returned u = Ending.returned u' ∧ After P ι σ w σ' v u' w4 := by
        intro j b tt st e1 e2 e3 e4 e5
        subst e1 e2 e3 e4 e5
        obtain ⟨w4, n1, n2, n3, n4⟩ := put_loop (P := P) (q := { t with state := if j.isNone then .ready else .done, pending := j }) (q' := { t' with state := if j.isNone then .ready else .done, pending := j }) m1 hs2 hg2 (hx2 ▸ hw2)
          ⟨rfl, rfl, hl2.params, hl2.assign, hl2.body, hl2.size, hl2.tmps, hl2.defers⟩
        refine ⟨.bool j.isNone, w4, ?_, .bool j.isNone, rfl, ι2, n2, ?_, .bool _⟩
        · rw [hx2] at hw2 ⊢
          unfold Instr.endRound
          simp only [Sem.run_bind, get_loop hw2, Result.andThen, n1, Sem.run_pure]
        · exact ((k2.trans k1 p3).trans p2 m2).trans m1 n3
      cases ex2 with
      | normal => cases h; exact fin none true _ .ready rfl rfl rfl rfl rfl
      | ret => cases h; exact fin (some .ret) false _ .done rfl rfl rfl rfl rfl
      | exit id => cases h; exact fin (some (.exit id)) false _ .done rfl rfl rfl rfl rfl

theorem value_ok {R : Rec} (hR : Sound P R) {F : Fence} (ho : Opn F) {u u' : Value} {args : List Value} {σ σ' : Hp} {v : Value} {ι : Emb} {w : World} {args' : Array Value}
    (h : valueStep R u args σ = .ok (v, σ')) (hr : Rel P ι σ w) (hfree : Free ι σ.next) (hu : VRel ι u u') (ha : LRel (VRel ι) args args'.toList) :
    ∃ d, (Deferred.ofValue u' args').run P w = .ok d w ∧ Gives F P (After P ι σ w σ' v) ((invoke d.target d.args).run P w) := by
  unfold valueStep at h
  split at h
  · rename_i f first captured
    cases hu with
    | @func _ f' _ first' _ captured' hf hx h1 hy h2 =>
      cases hf with
      | same _ _ =>
        refine ⟨_, rfl, ?_⟩
        simp only [invoke]
        refine hR.call ho h hr hfree ?_
        rw [Array.toList_append, Array.toList_append]
        exact ((LRel.of_array hx h1).append ha).append (LRel.of_array hy h2)
  · rename_i l first captured
    cases hu with
    | @func _ f' _ first' _ captured' hf hx h1 hy h2 =>
      cases hf with
      | same _ hne => exact absurd rfl (hne l)
      | yield _ l' hb =>
        refine ⟨_, rfl, ?_⟩
        simp only [invoke]
        refine yield_ok hR.code ho h hr hfree hb ?_
        rw [Array.toList_append]
        exact (LRel.of_array hx h1).append ha
  · cases h

end Go.Cx

/-
  CxZb: ranges over functions; code; the evaluator is sound.
-/

namespace Go.Cx
variable {P : Program} [Tab P] [TabOk P]

theorem ends_refl {ι : Emb} {σ : Hp} {w : World} {ac : Ac} {a : Act} (hr : Rel P ι σ w) (hfr : FRel ι ac.fr a.tmps) (hd : DRel ι ac.marks a.defers) : Ends P ι σ w σ ac a w := ⟨ι, hr, Step.refl _ _ _, hfr, hd⟩

/-- The block of the deferred calls of a loop. -/
theorem start_ok {F : Fence} {round : Option Nat} {ac : Ac} {σ σ1 : Hp} {blk : Nat} {marks : List Nat} {ι : Emb} {w : World} {a : Act} (h : startOf round ac σ = .ok (blk, σ1, marks)) (hr : Rel P ι σ w) (hfree : Free ι σ.next)
    (hround : RRel ι round F.round) (hd : DRel ι ac.marks a.defers) (fn : FuncId) (ps : Array Tmp) (assign body : Code) :
    ∃ ι1 w1 blk' mark, Rel P ι1 σ1 w1 ∧ Step ι σ w ι1 σ1 w1 ∧ Free ι1 σ1.next ∧ BRel ι1 blk blk' ∧ DRel ι1 marks (mark ++ a.defers) ∧
      (Instr.enterLoop fn a.tmps ps assign body F.round).run P w =
        .ok (w1.heap.size, mark) { w1 with heap := w1.heap.push (.loop { state := .ready, pending := none, fn, tmps := a.tmps, params := ps, assign, body, defers := blk' }) } := by
  unfold startOf at h
  cases round with
  | none =>
    cases hF : F.round with
    | some l => rw [hF] at hround; exact hround.elim
    | none =>
      cases h
      obtain ⟨k1, k2⟩ := hr.alloc (hfree _ (Nat.le_refl _)) (g := none) (P := P) ORel.opened
      refine ⟨_, _, w.heap.size, [{ target := .collected w.heap.size, args := #[] }], k1, k2, hfree.step hr k2, by simp [BRel, Emb.set], .cons (by simp [BRel, Emb.set]) (hd.mono (k2.le (hfree.fresh _))), ?_⟩
      unfold Instr.enterLoop
      simp [newObj, Sem.run, Result.andThen]
      exact ⟨rfl, rfl, rfl⟩
  | some l =>
    cases hF : F.round with
    | none => rw [hF] at hround; exact hround.elim
    | some l' =>
      rw [hF] at hround
      simp only at h
      obtain ⟨r, h1, h⟩ := Res.bind_ok.1 h
      cases h
      obtain ⟨s, r', hs, rfl, hg, hw, hl⟩ := loop_at hr hround h1
      refine ⟨ι, w, r'.defers, [], hr, Step.refl _ _ _, hfree, hl.defers, hd, ?_⟩
      unfold Instr.enterLoop
      simp [get_loop hw, newObj, Sem.run, Result.andThen]

theorem end_ok {l l' : Nat} {σ σ' : Hp} {ι : Emb} {w : World} {j : Option Code} (h : endOf l σ = .ok (j, σ')) (hr : Rel P ι σ w) (hb : BRel ι l l') :
    ∃ w', (Instr.endLoop l').run P w = .ok j w' ∧ Rel P ι σ' w' ∧ Step ι σ w ι σ' w' := by
  unfold endOf at h
  obtain ⟨q, h1, h⟩ := Res.bind_ok.1 h
  obtain ⟨hst, h⟩ := sure_ok.1 h
  cases h
  obtain ⟨s, q', hs, rfl, hg, hw, hl⟩ := loop_at hr hb h1
  obtain ⟨w', n1, n2, n3, _⟩ := put_loop (P := P) (q := { q with state := .exhausted }) (q' := { q' with state := .exhausted }) hr hs hg hw ⟨rfl, hl.pending, hl.params, hl.assign, hl.body, hl.size, hl.tmps, hl.defers⟩
  refine ⟨w', ?_, n2, n3⟩
  have hne : (q'.state == LoopState.busy) = false := by rw [hl.state]; simpa using hst
  unfold Instr.endLoop
  simp only [Sem.run_bind, get_loop hw, Result.andThen, hne, Bool.false_eq_true, if_false, n1, Sem.run_pure]
  rw [hl.pending]

theorem range_stmt {O : Oracle} (henv : Env P O) {R : Rec} (hR : Sound P R) {F : Fence} (ho : Opn F) {round : Option Nat} {fn : FuncId} {f : Operand} {ps : Array Tmp} {assign body : Code} {ac ac' : Ac} {σ σ' : Hp} {ex : Ex}
    {ι : Emb} {w : World} {a : Act} (h : codeStep P R round fn (.rangeFunc f ps assign body) ac σ = .ok (ex, ac', σ')) (hr : Rel P ι σ w) (hfree : Free ι σ.next) (hround : RRel ι round F.round) (hfr : FRel ι ac.fr a.tmps)
    (hd : DRel ι ac.marks a.defers) (Q : Exit → Act → World → Prop) (hQ : ∀ a' w', Ends P ι σ w σ' ac' a' w' → Q (exitOf ex) a' w') : (Code.rangeFunc f ps assign body).wpIn F 0 P Q a w := by
  unfold codeStep at h
  obtain ⟨⟨blk, σ1, marks⟩, h1, h⟩ := Res.bind_ok.1 h
  obtain ⟨⟨v, σ3⟩, h2, h⟩ := Res.bind_ok.1 h
  obtain ⟨⟨j, σ4⟩, h3, h⟩ := Res.bind_ok.1 h
  simp only at h2 h3 h
  refine wpIn_rangeFunc fun fnc hfnc => ?_
  obtain ⟨ι1, w1, blk', mark, k1, k2, k3, k4, k5, k6⟩ := start_ok h1 hr hfree hround hd fnc ps assign body
  have hle1 := k2.le (hfree.fresh _)
  have hfr1 := hfr.mono hle1
  have hloop : ORel P ι1 ⟨w1.heap.size, none⟩ (loopOb ac blk ps assign body) (.loop { state := .ready, pending := none, fn := fnc, tmps := a.tmps, params := ps, assign, body, defers := blk' }) := by
    refine .loop ⟨rfl, rfl, rfl, rfl, rfl, ?_, ?_, k4⟩
    · simp [Fr.list, hfr.1]
    · intro i x y hx hy
      have hi : i < ac.fr.n := by
        have := (Array.getElem?_eq_some_iff.1 hx).1
        simpa [Fr.list] using this
      have e1 : x = ac.fr.at i := by
        simp [Fr.list, hi] at hx
        exact hx.symm
      have e2 : a.tmps.getD i undef = y := by simp [hy]
      rw [e1, ← e2]
      exact hfr1.2 i
  obtain ⟨m1, m2⟩ := k1.alloc (k3 _ (Nat.le_refl _)) (g := none) hloop
  generalize hι2 : ι1.set σ1.next (.live ⟨w1.heap.size, none⟩) = ι2 at m1 m2
  generalize hw2 : { w1 with heap := w1.heap.push (.loop { state := .ready, pending := none, fn := fnc, tmps := a.tmps, params := ps, assign, body, defers := blk' }) } = w2 at m1 m2 k6
  have hle2 := m2.le (k3.fresh _)
  have hfree2 := k3.step k1 m2
  have hbl : BRel ι2 σ1.next w1.heap.size := by rw [← hι2]; simp [BRel, Emb.set]
  unfold ranged at h2
  split at h2
  · rename_i g first captured hev
    obtain ⟨hbody, h2⟩ := sure_ok.1 h2
    have hu : VRel ι (.func (.func g) first captured) (a.eval f) := hev ▸ (ERel.of henv.room hr hfr) f
    have hu2 := (hu.mono hle1).mono hle2
    generalize hq : a.eval f = u at hu2
    cases hu2 with
    | @func _ f' _ first' _ captured' hf hx q1 hy q2 =>
      cases hf
      unfold hasBody at hbody
      split at hbody
      · rename_i fd hfd
        have hent : ∀ (args : Array Value) (w : World), (callFunc g args).run P w = .ok (.enter g args) w := run_enter hfd hbody (henv.named g fd hfd hbody)
        have hcall := hR.call ho h2 m1 hfree2 (args' := first' ++ #[.func (.yield w1.heap.size) #[] #[]] ++ captured') (by
          rw [Array.toList_append, Array.toList_append]
          refine ((LRel.of_array hx q1).append (.cons ?_ .nil)).append (LRel.of_array hy q2)
          exact .func (.yield _ _ hbl) rfl (fun i x y hx => by simp at hx) rfl (fun i x y hx => by simp at hx))
        rw [hent] at hcall
        refine ⟨w1.heap.size, mark, w2, { target := .fn (.func g) captured', args := first' ++ #[.func (.yield w1.heap.size) #[] #[]] }, w2, g, first' ++ #[.func (.yield w1.heap.size) #[] #[]] ++ captured', w2, k6, ?_, fun f' _ => ho.fn f', ?_, fun hh => ?_, ?_⟩
        · have hq' : a.eval f = .func (.func g) first' captured' := hq
          have e : resolve a.eval (Go.rangeCall f w1.heap.size) 0 = Deferred.ofValue (a.eval f) #[.func (.yield w1.heap.size) #[] #[]] := by
            simp [resolve, Go.rangeCall]
            rfl
          rw [e, hq']
          rfl
        · simp only [invoke]
          exact hent _ _
        · rw [ho.depth] at hh; cases hh
        · refine CallsIn.mono hcall fun e w3 ⟨v', he, ι3, n1, n2, _⟩ => ?_
          subst he
          have hle3 := n2.le (hfree2.fresh _)
          obtain ⟨w4, p1, p2, p3⟩ := end_ok h3 n1 (hbl.mono hle3)
          have htr : Step ι σ w ι3 σ4 w4 := ((k2.trans k1 m2).trans m1 n2).trans n1 p3
          have hfree4 : Free ι3 σ4.next := (hfree2.step m1 n2).step n1 p3
          have hfr3 : FRel ι3 ac.fr a.tmps := (hfr1.mono hle2).mono hle3
          have hd3 : DRel ι3 marks (mark ++ a.defers) := (k5.mono hle2).mono hle3
          refine ⟨j, w4, p1, ?_⟩
          cases j with
          | none => cases h; exact hQ _ _ ⟨ι3, p2, htr, hfr3, hd3⟩
          | some c =>
            refine hR.code.ok ho h p2 hfree4 (((hround.mono hle1).mono hle2).mono hle3) (a := { a with defers := mark ++ a.defers }) hfr3 hd3 Q fun a' w' he => hQ a' w' (he.of_trans p2 htr)
      · cases hbody
  · cases h2

theorem code_ok {O : Oracle} (henv : Env P O) {n : Nat} (ih : ∀ m, m ≤ n → Sound P (go P O m)) : CodeSound P (codeStep P (go P O n)) := by
  have hR := ih n (Nat.le_refl _)
  refine ⟨fun {F} ho {round fn c ac ac' σ σ' ex ι w a} h hr hfree hround hfr hd Q hQ => ?_⟩
  cases c with
  | skip => cases h; exact wpIn_skip (hQ _ _ (ends_refl hr hfr hd))
  | label l => cases h; exact wpIn_label (hQ _ _ (ends_refl hr hfr hd))
  | ret => cases h; exact wpIn_ret (hQ _ _ (ends_refl hr hfr hd))
  | exit id => cases h; exact wpIn_exit (hQ _ _ (ends_refl hr hfr hd))
  | seq x y =>
    unfold codeStep at h
    obtain ⟨⟨ex1, ac1, σ1⟩, h1, h⟩ := Res.bind_ok.1 h
    refine wpIn_seq (hR.code.ok ho h1 hr hfree hround hfr hd _ fun a1 w1 he => ?_)
    cases ex1 with
    | normal =>
      obtain ⟨ι1, k1, k2, k3, k4⟩ := he
      have hle := k2.le (hfree.fresh _)
      exact hR.code.ok ho h k1 (hfree.step hr k2) (hround.mono hle) k3 k4 Q fun a' w' he => hQ a' w' (he.of_trans k1 k2)
    | exit id => cases h; exact hQ _ _ he
    | ret => cases h; exact hQ _ _ he
  | cond o x y =>
    simp only [codeStep] at h
    have hv := (ERel.of henv.room hr hfr) o
    split at h
    · rename_i he
      rw [he] at hv
      exact wpIn_cond_true hv.bool_eq (hR.code.ok ho h hr hfree hround hfr hd Q hQ)
    · rename_i he
      rw [he] at hv
      exact wpIn_cond_false hv.bool_eq (hR.code.ok ho h hr hfree hround hfr hd Q hQ)
    · cases h
  | block id x =>
    unfold codeStep at h
    obtain ⟨⟨ex1, ac1, σ1⟩, h1, h⟩ := Res.bind_ok.1 h
    refine wpIn_block (hR.code.ok ho h1 hr hfree hround hfr hd _ fun a1 w1 he => ?_)
    cases ex1 with
    | normal => cases h; exact hQ _ _ he
    | ret => cases h; exact hQ _ _ he
    | exit i =>
      simp only at h
      by_cases hi : i = id
      · simp only [hi, decide_true] at h
        cases h
        simp only [exitOf, Exit.inBlock, hi, if_true]
        exact hQ _ _ he
      · simp only [hi, decide_false] at h
        cases h
        simp only [exitOf, Exit.inBlock, hi, if_false]
        exact hQ _ _ he
  | loop x =>
    let I : Nat → Act → World → Prop := fun k a1 w1 => k ≤ n + 1 ∧ ∃ ac1 σ1 ι1, (go P O k).code round fn (.loop x) ac1 σ1 = .ok (ex, ac', σ') ∧ Rel P ι1 σ1 w1 ∧ Free ι1 σ1.next ∧ RRel ι1 round F.round ∧ FRel ι1 ac1.fr a1.tmps ∧ DRel ι1 ac1.marks a1.defers ∧ Step ι σ w ι1 σ1 w1
    refine wpIn_loop_nat I (k := n + 1) ⟨Nat.le_refl _, ac, σ, ι, h, hr, hfree, hround, hfr, hd, Step.refl _ _ _⟩ ?_
    rintro k a1 w1 ⟨hk, ac1, σ1, ι1, q1, q2, q3, q4, q5, q6, q7⟩
    cases k with
    | zero => cases q1
    | succ k =>
      have hS := ih k (by omega)
      have q1 : codeStep P (go P O k) round fn (.loop x) ac1 σ1 = .ok (ex, ac', σ') := q1
      unfold codeStep at q1
      obtain ⟨⟨ex2, ac2, σ2⟩, h1, q1⟩ := Res.bind_ok.1 q1
      refine hS.code.ok ho h1 q2 q3 q4 q5 q6 _ fun a2 w2 he => ?_
      cases ex2 with
      | normal =>
        obtain ⟨ι2, k1, k2, k3, k4⟩ := he
        have hle := k2.le (q3.fresh _)
        exact ⟨k, by omega, by omega, ac2, σ2, ι2, q1, k1, q3.step q2 k2, q4.mono hle, k3, k4, q7.trans q2 k2⟩
      | exit id => cases q1; exact hQ _ _ (he.of_trans q2 q7)
      | ret => cases q1; exact hQ _ _ (he.of_trans q2 q7)
  | region id ops draw =>
    unfold codeStep at h
    have hleave : ∀ {fr' : Fr} {σ2 : Hp}, ex = .normal → ac' = { ac with fr := fr' } → σ' = σ2 → ∀ a' w', Leaves P ι σ w σ2 fr' a.defers a' w' → Q .normal a' w' := by
      rintro fr' σ2 rfl rfl rfl a' w' ⟨ι', k1, k2, k3, k4⟩
      exact hQ a' w' ⟨ι', k1, k2, k3, by rw [k4]; exact hd.mono (k2.le (hfree.fresh _))⟩
    cases draw with
    | false =>
      obtain ⟨⟨fr', σ2⟩, h1, h⟩ := Res.bind_ok.1 h
      cases h
      refine wpIn_region (inOrder_ok ho (hR.calls henv.room) Q _ ops.toList ?_ (by simp) hr hfree hfr h1 (hleave rfl rfl rfl))
      intro i y hy
      have hi : i < ops.size := by have := (List.getElem?_eq_some_iff.1 hy).1; simpa using this
      have : y = i := by simp [List.getElem?_range hi] at hy; exact hy.symm
      subst this
      rw [Array.getElem?_toList]
    | true =>
      obtain ⟨⟨fr', σ2⟩, h1, h⟩ := Res.bind_ok.1 h
      cases h
      exact drawn_ok ho (hR.calls henv.room) henv.room henv.mixed hr hfree hfr h1 (hleave rfl rfl rfl)
  | rangeFunc f ps assign body => exact range_stmt henv hR ho h hr hfree hround hfr hd Q hQ
  | _ => cases h

theorem go_sound {O : Oracle} (henv : Env P O) : ∀ n, Sound P (go P O n) := by
  intro n
  induction n using Nat.strongRecOn with
  | _ n ih =>
    cases n with
    | zero =>
      refine ⟨⟨?_⟩, ?_, ?_⟩
      · intro F ho round fn c ac ac' σ σ' ex ι w a h; cases h
      · intro F ho f args σ σ' v ι w args' h; cases h
      · intro F ho u u' args σ σ' v ι w args' h; cases h
    | succ n =>
      have hc : CodeSound P (codeStep P (go P O n)) := code_ok henv fun m hm => ih m (by omega)
      exact ⟨hc, fun ho _ _ _ _ _ _ _ _ h hr hfree ha => call_ok henv (ih n (by omega)).code ho h hr hfree ha, fun ho _ _ _ _ _ _ _ _ _ h hr hfree hu ha => value_ok (ih n (by omega)) ho h hr hfree hu ha⟩

end Go.Cx
