/-
  CxG: operations in their order; what is held of a world beside a heap.
-/
import Derived.Test.YtglglgkaadfhpaaGreatDoorXFb
import Derived.OrdersIn
set_option linter.all false
namespace Go.Cx
variable {P : Program} [Tab P] [TabOk P]

def Room (P : Program) : Prop := gl ≤ P.globals.size

theorem ERel.of {ι : Emb} {σ : Hp} {w : World} {fr : Fr} {a : Act} (hg : Room P) (hr : Rel P ι σ w) (hf : FRel ι fr a.tmps) : ERel ι fr a.eval := by
  intro x
  cases x with
  | tmp t => exact hf.2 t
  | const v => exact constV_rel ι v
  | global g =>
    simp only [ev, Act.eval]
    cases hb : Nat.blt g gl with
    | false => exact .unk _
    | true =>
      have hb : g < gl := by rw [Nat.blt_eq] at hb; exact hb
      have hlt : g < P.globals.size := Nat.lt_of_lt_of_le hb hg
      refine .ptr ?_
      unfold ARel
      cases hq : ι g with
      | unborn => have := hr.gborn g hlt; rw [hq] at this; exact this.elim
      | live s => simp only [hr.glob g s hlt hq]
      | dead => trivial
      | val u => have := hr.gborn g hlt; rw [hq] at this; exact this.elim
  | func f => exact .func (.same _ (fun l h => by cases h)) rfl (fun i x y h => by simp at h) rfl (fun i x y h => by simp at h)

theorem FRel.putFr {ι : Emb} {fr : Fr} {a : Act} (h : FRel ι fr a.tmps) {v v' : Value} (hv : VRel ι v v') (d : Option Tmp) : FRel ι (putFr fr d v) (a.put d v').tmps := by
  cases d with
  | none => exact h
  | some d => exact h.put hv d

theorem wanted_ok {ι : Emb} {fr : Fr} {a : Act} {ops : Array Oper} {o : Oper} {b : Bool} (hf : FRel ι fr a.tmps) (h : wanted ops.toList fr o = .ok b) : Region.wanted o (yielded ops a.tmps) = b := by
  unfold wanted at h
  unfold Region.wanted
  cases hg : o.guard with
  | none => simp [hg] at h ⊢; exact h
  | some g =>
    obtain ⟨j, want⟩ := g
    simp only [hg] at h ⊢
    rw [Array.getElem?_toList] at h
    cases hd : (ops[j]?).bind (·.dst) with
    | none => simp [hd] at h
    | some d =>
      simp only [hd] at h
      have hv := hf.2 d
      have hyy : yielded ops a.tmps j = match a.tmps[d]? with | some (.bool b) => some b | _ => none := by
        unfold yielded; rw [hd]; rfl
      rw [hyy]
      cases hat : fr.at d <;> simp only [hat] at h hv
      case bool c =>
        have e := hv.bool_eq
        have : a.tmps[d]? = some (.bool c) := by
          by_cases hlt : d < a.tmps.size
          · simp [hlt] at e ⊢; first | exact e | simp [e] | skip
          · simp [hlt, undef] at e
        rw [this]
        cases h; cases c <;> cases want <;> rfl
      case tuple vs =>
        split at h
        · rename_i heq; cases heq
        · rename_i heq
          cases heq
          injection h with h
          subst h
          cases hq : a.tmps[d]? with
          | none => rfl
          | some u =>
            have : a.tmps.getD d undef = u := by simp [hq]
            rw [this] at hv
            cases hv <;> rfl
        · cases h
      all_goals cases h

/-- Nothing is born from here on. -/
def Free (ι : Emb) (n : Nat) : Prop := ∀ b, n ≤ b → ι b = .unborn

theorem Free.fresh {ι : Emb} {n : Nat} (h : Free ι n) (m : Nat) : Fresh ι n m := fun b hb _ => h b hb

theorem Free.step {ι ι' : Emb} {σ σ' : Hp} {w w' : World} (hr : Rel P ι σ w) (h : Free ι σ.next) (k : Step ι σ w ι' σ' w') : Free ι' σ'.next := by
  intro b hb
  rcases k.old b (.inr hb) with k1 | ⟨_, ⟨o, ho⟩, _⟩
  · rw [k1]; exact h b (Nat.le_trans k.next hb)
  · have := hr.ids b o ho; have := k.next; omega

/-- Nothing stands in the way of a call. -/
structure Opn (F : Fence) : Prop where
  fn : ∀ f, F.fn f
  depth : F.depth = none
  alive : F.alive = false

theorem Opn.wide : Opn Fence.wide := ⟨fun _ => trivial, rfl, rfl⟩
theorem Opn.inRound {F : Fence} (h : Opn F) (l : Nat) : Opn (F.inRound l) := ⟨h.fn, h.depth, h.alive⟩

/-- What an operation comes to, in a value and a world. -/
def Does (F : Fence) (P : Program) (o : Oper) (a : Act) (w : World) (C : Value → World → Prop) : Prop :=
  ∀ (next : Act → World → Prop) (Q : Exit → Act → World → Prop), (∀ v' w', C v' w' → next (a.put o.dst v') w') → o.wpIn F 0 P a w next Q

/-- A value and a world that stand for these. -/
def After (P : Program) [Tab P] (ι : Emb) (σ : Hp) (w : World) (σ' : Hp) (v : Value) (v' : Value) (w' : World) : Prop :=
  ∃ ι', Rel P ι' σ' w' ∧ Step ι σ w ι' σ' w' ∧ VRel ι' v v'

theorem Does.of_did {F : Fence} (ho : Opn F) {o : Oper} {a : Act} {ι : Emb} {σ σ' : Hp} {w : World} {v : Value} (hd : ∀ c, o.op ≠ .defer c) (h : Did P ι σ w σ' v ((execOp a.eval o).run P w)) :
    Does F P o a w (After P ι σ w σ' v) := by
  obtain ⟨nx, w', ι', v', h1, h2, h3, h4, h5⟩ := h
  intro next Q hn
  refine ⟨fun f _ => ho.fn f, ?_⟩
  rw [Oper.semAt_eq _ _ _ hd, h1]
  rcases h2 with rfl | ⟨rfl, rfl⟩
  · exact hn _ _ ⟨ι', h3, h4, h5⟩
  · exact hn _ _ ⟨ι', h3, h4, h5⟩

theorem plain_defer {σ σ' : Hp} {fr : Fr} {o : Oper} {v : Value} (h : plain P fr σ o = .ok (v, σ')) : ∀ c, o.op ≠ .defer c := by
  intro c hc
  have h0 : ∀ r, plain0 P fr σ o ≠ .ok r := by
    intro r
    unfold plain0
    rw [hc]
    intro h; cases h
  unfold plain at h
  split at h
  · rename_i r hp; exact h0 r hp
  · unfold extra at h
    rw [hc, TabOk.defer] at h
    cases h

theorem plain_does {F : Fence} (ho : Opn F) (hg : Room P) {ι : Emb} {σ σ' : Hp} {w : World} {fr : Fr} {o : Oper} {a : Act} {v : Value} (hr : Rel P ι σ w) (hf : Fresh ι σ.next σ'.next) (hfr : FRel ι fr a.tmps)
    (h : plain P fr σ o = .ok (v, σ')) : Does F P o a w (After P ι σ w σ' v) :=
  .of_did ho (plain_defer h) (plain_did hr hf (.of hg hr hfr) h)

/-- What a 'Rec' says of calls. -/
structure Calls' (P : Program) [Tab P] (R : Rec) : Prop where
  oper : ∀ (F : Fence), Opn F → ∀ {ι : Emb} {σ σ' : Hp} {w : World} {fr : Fr} {o : Oper} {a : Act} {v : Value}, Rel P ι σ w → Free ι σ.next → FRel ι fr a.tmps →
    oper P R fr σ o = .ok (v, σ') → Does F P o a w (After P ι σ w σ' v)

/-- What a region comes to. -/
def Leaves (P : Program) [Tab P] (ι : Emb) (σ : Hp) (w : World) (σ' : Hp) (fr' : Fr) (ds : List Deferred) (a' : Act) (w' : World) : Prop :=
  ∃ ι', Rel P ι' σ' w' ∧ Step ι σ w ι' σ' w' ∧ FRel ι' fr' a'.tmps ∧ a'.defers = ds

theorem inOrder_ok {F : Fence} (ho : Opn F) {R : Rec} (hR : Calls' P R) {ops : Array Oper} (Q : Exit → Act → World → Prop) : ∀ (l : List Nat) (os : List Oper), (∀ (i x : Nat), l[i]? = some x → ops[x]? = os[i]?) → l.length = os.length →
    ∀ {ι : Emb} {σ σ' : Hp} {w : World} {fr fr' : Fr} {a : Act}, Rel P ι σ w → Free ι σ.next → FRel ι fr a.tmps → inOrder P R ops.toList os fr σ = .ok (fr', σ') →
    (∀ a' w', Leaves P ι σ w σ' fr' a.defers a' w' → Q .normal a' w') → wpOpsIn F 0 P ops Q l a w := by
  intro l
  induction l with
  | nil =>
    intro os _ hl ι σ σ' w fr fr' a hr hfree hfr h hQ
    have : os = [] := List.length_eq_zero_iff.1 (by simpa using hl.symm)
    subst this
    cases h
    exact hQ _ _ ⟨ι, hr, Step.refl _ _ _, hfr, rfl⟩
  | cons x l ih =>
    intro os hx hl ι σ σ' w fr fr' a hr hfree hfr h hQ
    cases os with
    | nil => simp at hl
    | cons o os =>
      have h0 : ops[x]? = some o := hx 0 x rfl
      have hx' : ∀ i y, l[i]? = some y → ops[y]? = os[i]? := fun i y hy => hx (i + 1) y (by simpa using hy)
      have hl' : l.length = os.length := by simpa using hl
      unfold inOrder at h
      obtain ⟨⟨fr1, σ1⟩, h1, h2⟩ := Res.bind_ok.1 h
      unfold one at h1
      obtain ⟨b, hb, h1⟩ := Res.bind_ok.1 h1
      simp only [wpOpsIn, h0]
      rw [wanted_ok hfr hb]
      cases b with
      | true =>
        obtain ⟨⟨v, σ2⟩, h3, h4⟩ := Res.bind_ok.1 h1
        cases h4
        refine hR.oper F ho hr hfree hfr h3 _ _ fun v' w' ⟨ι', k1, k2, k3⟩ => ?_
        have hle := k2.le (hfree.fresh _)
        refine ih os hx' hl' k1 (Free.step hr hfree k2) ((hfr.mono hle).putFr k3 _) h2 fun a' w'' ⟨ι'', q1, q2, q3, q4⟩ => hQ _ _ ⟨ι'', q1, Step.trans k1 k2 q2, q3, ?_⟩
        rw [q4]; cases o.dst <;> rfl
      | false =>
        cases h1
        refine ⟨fun f _ => ho.fn f, ?_⟩
        refine ih os hx' hl' hr hfree (hfr.putFr VRel.undef _) h2 fun a' w'' ⟨ι'', q1, q2, q3, q4⟩ => hQ _ _ ⟨ι'', q1, q2, q3, ?_⟩
        rw [q4]; cases o.dst <;> rfl

end Go.Cx

/-
  CxC: an operation sees of the temporaries what it names, and nothing else.
-/

namespace Go.Cx
variable {P : Program} [Tab P] [TabOk P]

theorem flatOp_congr {fr fr' : Fr} {o : Oper} (hs : ∀ cs b, o.op ≠ .select cs b) (h : ∀ x ∈ o.op.operands, ev fr x = ev fr' x) : flatOp P fr o = flatOp P fr' o := by
  unfold flatOp
  rw [execOp_congr o hs h]
  have : (o.op.operands.toList.all fun x => flat 8 (ev fr x)) = (o.op.operands.toList.all fun x => flat 8 (ev fr' x)) := by
    have : ∀ l : List Operand, (∀ x ∈ l, ev fr x = ev fr' x) → (l.all fun x => flat 8 (ev fr x)) = (l.all fun x => flat 8 (ev fr' x)) := by
      intro l
      induction l with
      | nil => intro _; rfl
      | cons a l ih => intro hl; simp only [List.all_cons]; rw [hl a (by simp), ih fun x hx => hl x (by simp [hx])]
    exact this _ fun x hx => h x (by simpa using hx)
  rw [this]

theorem builtin_congr {σ : Hp} {fr fr' : Fr} {o : Oper} {c : Call} (hop : o.op = .call c) (h : ∀ x ∈ o.op.operands, ev fr x = ev fr' x) : opBuiltin P fr σ o c = opBuiltin P fr' σ o c := by
  have hs : ∀ cs b, o.op ≠ .select cs b := by rw [hop]; intro _ _ h; cases h
  unfold opBuiltin
  split
  · rename_i b hb
    have ha : ∀ x ∈ c.args.toList, ev fr x = ev fr' x := fun x hx => h x (by
      rw [hop]
      simp only [Op.operands, Call.operands, hb]
      simpa using hx)
    generalize c.args.toList = l at ha
    unfold builtin
    split
    · rw [ha _ (by simp), ha _ (by simp)]
    · rw [ha _ (by simp), ha _ (by simp)]
    · rw [ha _ (by simp)]
    · rw [ha _ (by simp), ha _ (by simp)]
    · unfold opLen; rw [ha _ (by simp)]
    · unfold opCap; rw [ha _ (by simp)]
    · rw [ha _ (by simp), ha _ (by simp)]
    · unfold opSliceData; rw [ha _ (by simp)]
    · rw [flatOp_congr hs h]
  · rfl

theorem parts_congr {fr fr' : Fr} {l : List (Nat × Operand)} (h : ∀ x ∈ l, ev fr x.2 = ev fr' x.2) :
    (l.map fun x => (x.1, ev fr x.2)) = (l.map fun x => (x.1, ev fr' x.2)) ∧ (l.all fun x => known (ev fr x.2)) = (l.all fun x => known (ev fr' x.2)) := by
  induction l with
  | nil => exact ⟨rfl, rfl⟩
  | cons a l ih =>
    obtain ⟨i1, i2⟩ := ih fun x hx => h x (by simp [hx])
    constructor
    · simp only [List.map_cons, i1, h a (by simp)]
    · simp only [List.all_cons, i2, h a (by simp)]

theorem args_congr {fr fr' : Fr} {l : List Operand} (h : ∀ x ∈ l, ev fr x = ev fr' x) : l.map (ev fr) = l.map (ev fr') := List.map_congr_left h

theorem opt_congr {fr fr' : Fr} {x : Option Operand} (h : ∀ y, x = some y → ev fr y = ev fr' y) : x.map (ev fr) = x.map (ev fr') := by
  cases x with
  | none => rfl
  | some y => simp [h y rfl]

theorem plain0_congr {σ : Hp} {fr fr' : Fr} {o : Oper} (h : ∀ x ∈ o.op.operands, ev fr x = ev fr' x) : plain0 P fr σ o = plain0 P fr' σ o := by
  have h0 := h
  unfold plain0
  split <;> rename_i hop <;> first | (rw [hop] at h; simp only [Op.operands] at h) | skip
  · rw [h _ (by simp)]
  · rw [h _ (by simp)]
  · unfold opPick; rw [h _ (by simp), h _ (by simp), h _ (by simp)]
  · rfl
  · unfold opBox; rw [h _ (by simp)]
  · rename_i ps
    obtain ⟨i1, i2⟩ := parts_congr (fr := fr) (fr' := fr') (l := ps.toList) fun x hx => h x.2 (by simp; exact ⟨x.1, by simpa using hx⟩)
    unfold opBuild; rw [i1, i2]
  · rename_i ps
    obtain ⟨i1, i2⟩ := parts_congr (fr := fr) (fr' := fr') (l := ps.toList) fun x hx => h x.2 (by simp; exact ⟨x.1, by simpa using hx⟩)
    unfold opBuildSlice; rw [i1, i2]
  · rw [h _ (by simp)]
  · rw [h _ (by simp), h _ (by simp)]
  · unfold opNilCheck; rw [h _ (by simp)]
  · have hs : ∀ cs b, o.op ≠ .select cs b := by rw [hop]; intro _ _ h; cases h
    unfold opBin opBinInt; rw [h _ (by simp), h _ (by simp), flatOp_congr hs h0]
  · have hs : ∀ cs b, o.op ≠ .select cs b := by rw [hop]; intro _ _ h; cases h
    unfold opConvert; rw [h _ (by simp), flatOp_congr hs h0]
  · rw [h _ (by simp)]
  · unfold opMakeFunc; rw [args_congr fun x hx => h x (by simp; simp at hx; exact .inl hx), args_congr fun x hx => h x (by simp; simp at hx; exact .inr hx)]
  · rfl
  · unfold opMakeSlice; rw [h _ (by simp), h _ (by simp)]
  · unfold opSlice
    rw [h _ (by simp), opt_congr fun y hy => h y (by simp [hy]), opt_congr fun y hy => h y (by simp [hy]), opt_congr fun y hy => h y (by simp [hy])]
  · rw [h _ (by simp)]
  · rw [h _ (by simp)]
  · rw [h _ (by simp), h _ (by simp)]
  · rw [h _ (by simp), h _ (by simp)]
  · rw [h _ (by simp), h _ (by simp)]
  · rw [h _ (by simp), h _ (by simp), h _ (by simp)]
  · rw [h _ (by simp)]
  · rw [h _ (by simp)]
  · rw [h _ (by simp)]
  · unfold opExtract; rw [h _ (by simp)]
  · unfold opUn; rw [h _ (by simp)]
  · exact builtin_congr hop h0
  · rfl

theorem extra_congr {σ : Hp} {fr fr' : Fr} {o : Oper} {s : String} (h : ∀ x ∈ o.op.operands, ev fr x = ev fr' x) : extra P fr σ o s = extra P fr' σ o s := by
  have hm : o.op.operands.toList.map (ev fr) = o.op.operands.toList.map (ev fr') := args_congr fun x hx => h x (by simpa using hx)
  unfold extra
  rw [hm]
  split
  · rfl
  · split <;> rename_i hop <;> first | (rw [hop] at h; simp only [Op.operands] at h) | skip
    · unfold lookupT; rw [h _ (by simp), h _ (by simp)]
    · rename_i c
      split
      · rename_i d x hc ha
        have ha' : ∀ x ∈ c.args.toList, ev fr x = ev fr' x := fun x hx => h x (by
          simp only [Call.operands, hc]
          simpa using hx)
        rw [ha] at ha'
        unfold copyT; rw [ha' _ (by simp), ha' _ (by simp)]
      · rename_i d x hc ha
        have ha' : ∀ x ∈ c.args.toList, ev fr x = ev fr' x := fun x hx => h x (by
          simp only [Call.operands, hc]
          simpa using hx)
        rw [ha] at ha'
        unfold appendT; rw [ha' _ (by simp), ha' _ (by simp)]
      · rename_i x hc ha
        have ha' : ∀ x ∈ c.args.toList, ev fr x = ev fr' x := fun x hx => h x (by
          simp only [Call.operands, hc]
          simpa using hx)
        rw [ha] at ha'
        unfold lenT; rw [ha' _ (by simp)]
      · rename_i x hc ha
        have ha' : ∀ x ∈ c.args.toList, ev fr x = ev fr' x := fun x hx => h x (by
          simp only [Call.operands, hc]
          simpa using hx)
        rw [ha] at ha'
        unfold dataT; rw [ha' _ (by simp)]
      · rename_i d x hc ha
        have ha' : ∀ x ∈ c.args.toList, ev fr x = ev fr' x := fun x hx => h x (by
          simp only [Call.operands, hc]
          simpa using hx)
        rw [ha] at ha'
        unfold stringT; rw [ha' _ (by simp), ha' _ (by simp)]
      · rfl
    · rfl

theorem plain_congr {σ : Hp} {fr fr' : Fr} {o : Oper} (h : ∀ x ∈ o.op.operands, ev fr x = ev fr' x) : plain P fr σ o = plain P fr' σ o := by
  unfold plain
  rw [plain0_congr h]
  split
  · rfl
  · exact extra_congr h

theorem oper_congr {R : Rec} {σ : Hp} {fr fr' : Fr} {o : Oper} (h : ∀ x ∈ o.op.operands, ev fr x = ev fr' x) : oper P R fr σ o = oper P R fr' σ o := by
  unfold oper
  split
  · rename_i c hop
    unfold opCall
    split
    · rename_i f hf
      rw [args_congr fun x hx => h x (by rw [hop]; simp only [Op.operands, Call.operands, hf]; simp; exact .inr (by simpa using hx))]
    · rename_i f hnf hf
      rw [args_congr fun x hx => h x (by rw [hop]; simp only [Op.operands, Call.operands, hf]; simp; exact .inr (by simpa using hx)),
        h f (by rw [hop]; simp only [Op.operands, Call.operands, hf]; simp)]
    · rfl
    · exact plain_congr h
  · exact plain_congr h

theorem wanted_congr {ops : List Oper} {fr fr' : Fr} {o : Oper} (h : ∀ g want d, o.guard = some (g, want) → (ops[g]?).bind (·.dst) = some d → fr.at d = fr'.at d) : wanted ops fr o = wanted ops fr' o := by
  unfold wanted
  cases hg : o.guard with
  | none => rfl
  | some g =>
    obtain ⟨j, want⟩ := g
    cases hd : (ops[j]?).bind (·.dst) with
    | none => simp [hd]
    | some d => simp only [hd, h j want d hg hd]

end Go.Cx

/-
  CxB: what a region's plan says.
-/

namespace Go.Cx

theorem edgesOf_ok {ms : List Nat} : ∀ {es : List Edge} {m : Nat}, edgesOf ms es = some m →
    (∀ e ∈ es, Region.binds .any e = true → ∃ me, ms[e.on]? = some me ∧ m.testBit e.on = true ∧ ∀ k, me.testBit k = true → m.testBit k = true) ∧
    (∀ k, m.testBit k = true → ∃ e ∈ es, Region.binds .any e = true ∧ (k = e.on ∨ ∃ me, ms[e.on]? = some me ∧ me.testBit k = true)) := by
  intro es
  induction es with
  | nil =>
    intro m h
    simp only [edgesOf, Option.some.injEq] at h
    subst h
    exact ⟨fun e he => by simp at he, fun k hk => by simp at hk⟩
  | cons e es ih =>
    intro m h
    unfold edgesOf at h
    cases hb : Region.binds .any e with
    | false =>
      simp only [hb] at h
      obtain ⟨i1, i2⟩ := ih h
      refine ⟨fun e' he' hb' => ?_, fun k hk => ?_⟩
      · rcases List.mem_cons.1 he' with rfl | he'
        · rw [hb] at hb'; cases hb'
        · exact i1 e' he' hb'
      · obtain ⟨e', h1, h2, h3⟩ := i2 k hk
        exact ⟨e', List.mem_cons_of_mem _ h1, h2, h3⟩
    | true =>
      simp only [hb] at h
      cases hm : ms[e.on]? with
      | none => simp [hm] at h
      | some me =>
        cases hx : edgesOf ms es with
        | none => simp [hm, hx] at h
        | some x =>
          simp only [hm, hx, Option.some.injEq] at h
          subst h
          obtain ⟨i1, i2⟩ := ih hx
          refine ⟨fun e' he' hb' => ?_, fun k hk => ?_⟩
          · rcases List.mem_cons.1 he' with rfl | he'
            · exact ⟨me, hm, by simp [Nat.testBit_or, Nat.testBit_two_pow_self], fun k hk => by simp [Nat.testBit_or, hk]⟩
            · obtain ⟨me', h1, h2, h3⟩ := i1 e' he' hb'
              exact ⟨me', h1, by simp [Nat.testBit_or, h2], fun k hk => by simp [Nat.testBit_or, h3 k hk]⟩
          · simp only [Nat.testBit_or, Bool.or_eq_true] at hk
            rcases hk with (hk | hk) | hk
            · exact ⟨e, by simp, hb, .inr ⟨me, hm, hk⟩⟩
            · refine ⟨e, by simp, hb, .inl ?_⟩
              rw [Nat.testBit_two_pow] at hk
              exact (of_decide_eq_true hk).symm
            · obtain ⟨e', h1, h2, h3⟩ := i2 k hk
              exact ⟨e', List.mem_cons_of_mem _ h1, h2, h3⟩

theorem masks_ok : ∀ {ops : List Oper} {ms r : List Nat}, masks ops ms = some r → ∃ suf, r = ms ++ suf ∧ suf.length = ops.length ∧
    ∀ (i : Nat) (o : Oper), ops[i]? = some o → ∃ m, edgesOf (r.take (ms.length + i)) o.after.toList = some m ∧ r[ms.length + i]? = some m := by
  intro ops
  induction ops with
  | nil => intro ms r h; cases h; exact ⟨[], by simp, rfl, fun i o h => by simp at h⟩
  | cons o ops ih =>
    intro ms r h
    unfold masks at h
    cases hm : edgesOf ms o.after.toList with
    | none => simp [hm] at h
    | some m =>
      simp only [hm] at h
      obtain ⟨suf, rfl, h2, h3⟩ := ih h
      refine ⟨m :: suf, by simp, by simp [h2], fun i o' ho => ?_⟩
      cases i with
      | zero =>
        simp at ho; subst ho
        exact ⟨m, by simp [hm], by simp⟩
      | succ i =>
        have := h3 i o' (by simpa using ho)
        have e : (ms ++ [m]).length + i = ms.length + (i + 1) := by simp; omega
        rw [e] at this
        exact this

structure PlanOk (ops : List Oper) (p : Plan) : Prop where
  pre : ∀ (i : Nat) (o : Oper), ops[i]? = some o → ∀ e ∈ o.after, Region.binds .any e = true → e.on < i ∧ (maskAt p i).testBit e.on = true ∧ ∀ k, (maskAt p e.on).testBit k = true → (maskAt p i).testBit k = true
  only : ∀ (i : Nat) (o : Oper), ops[i]? = some o → ∀ k, (maskAt p i).testBit k = true → ∃ e ∈ o.after, Region.binds .any e = true ∧ (k = e.on ∨ (maskAt p e.on).testBit k = true)
  out : ∀ i, ops.length ≤ i → maskAt p i = 0
  apart : ∀ (i : Nat) (o : Oper) d, ops[i]? = some o → o.dst = some d → ∀ (j : Nat) x, ops[j]? = some x → i ≠ j →
    x.dst ≠ some d ∧ (d ∈ namesOf ops x → (i < j ∧ (maskAt p j).testBit i = true) ∨ (j < i ∧ (maskAt p i).testBit j = true))
  chain : ∀ (i j : Nat) (o x : Oper), ops[i]? = some o → ops[j]? = some x → kd o = .eff → kd x = .eff → i < j → (maskAt p j).testBit i = true
  bits : ∀ k, p.bits.testBit k = true ↔ ∃ o, ops[k]? = some o ∧ kd o = .eff

theorem mem_effs {ops : List Oper} {i : Nat} : i ∈ effsOf ops ↔ ∃ o, ops[i]? = some o ∧ kd o = .eff := by
  unfold effsOf
  rw [List.mem_filterMap]
  constructor
  · rintro ⟨⟨o, j⟩, h1, h2⟩
    rw [List.mem_zipIdx_iff_getElem?] at h1
    simp only at h1 h2
    split at h2
    · rename_i hk; cases h2; exact ⟨o, h1, hk⟩
    · cases h2
  · rintro ⟨o, h1, h2⟩
    exact ⟨(o, i), by rw [List.mem_zipIdx_iff_getElem?]; exact h1, by simp [h2]⟩

theorem effs_sorted (ops : List Oper) : (effsOf ops).Pairwise (· < ·) := by
  unfold effsOf
  have : ∀ (l : List Oper) (n : Nat), ((l.zipIdx n).filterMap fun (o, i) => match kd o with | .eff => some i | _ => none).Pairwise (· < ·) ∧
      ∀ i ∈ ((l.zipIdx n).filterMap fun (o, i) => match kd o with | .eff => some i | _ => none), n ≤ i := by
    intro l
    induction l with
    | nil => intro n; simp
    | cons o l ih =>
      intro n
      obtain ⟨i1, i2⟩ := ih (n + 1)
      simp only [List.zipIdx_cons, List.filterMap_cons]
      split
      · exact ⟨i1, fun i hi => Nat.le_of_succ_le (i2 i hi)⟩
      · rename_i b hb
        have hbn : b = n := by
          revert hb
          cases kd o <;> simp
          exact fun h => h.symm
        subst hbn
        exact ⟨List.pairwise_cons.2 ⟨fun i hi => i2 i hi, i1⟩, fun i hi => by
          rcases List.mem_cons.1 hi with rfl | hi
          · exact Nat.le_refl _
          · exact Nat.le_of_succ_le (i2 i hi)⟩
  exact (this ops 0).1

theorem bits_fold (l : List Nat) : ∀ (b k : Nat), (l.foldl (fun b e => b ||| 2 ^ e) b).testBit k = true ↔ b.testBit k = true ∨ k ∈ l := by
  induction l with
  | nil => intro b k; simp
  | cons e l ih =>
    intro b k
    rw [List.foldl_cons, ih, Nat.testBit_or, Bool.or_eq_true, List.mem_cons, Nat.testBit_two_pow, decide_eq_true_eq]
    constructor
    · rintro ((h | h) | h)
      · exact .inl h
      · exact .inr (.inl h.symm)
      · exact .inr (.inr h)
    · rintro (h | h | h)
      · exact .inl (.inl h)
      · exact .inl (.inr h.symm)
      · exact .inr h

theorem chained_ok {ms : List Nat} (htr : ∀ a b c : Nat, (ms.getD c 0).testBit b = true → (ms.getD b 0).testBit a = true → (ms.getD c 0).testBit a = true) :
    ∀ {l : List Nat}, chained ms l = true → l.Pairwise (fun a b => (ms.getD b 0).testBit a = true) := by
  intro l
  induction l with
  | nil => intro _; exact .nil
  | cons a l ih =>
    intro h
    cases l with
    | nil => exact List.pairwise_cons.2 ⟨fun _ h => by simp at h, .nil⟩
    | cons b r =>
      simp only [chained, Bool.and_eq_true] at h
      have hp := ih h.2
      refine List.pairwise_cons.2 ⟨fun c hc => ?_, hp⟩
      rcases List.mem_cons.1 hc with rfl | hc
      · exact h.1
      · exact htr a b c ((List.pairwise_cons.1 hp).1 c hc) h.1

theorem plan_ok {ops : List Oper} {p : Plan} (h : plan ops = some p) : PlanOk ops p := by
  unfold plan at h
  cases hm : masks ops [] with
  | none => simp [hm] at h
  | some ms =>
    simp only [hm] at h
    cases hc : apartOk ops ms && chained ms (effsOf ops) with
    | false => simp [hc] at h
    | true =>
      simp only [hc, Option.some.injEq] at h
      simp only [Bool.and_eq_true] at hc
      obtain ⟨hap, hch⟩ := hc
      obtain ⟨suf, h1, h2, h3⟩ := masks_ok hm
      simp only [List.nil_append] at h1
      subst h1
      have hmask : ∀ i, maskAt p i = ms.getD i 0 := by intro i; rw [← h]; rfl
      have take_get : ∀ {i j : Nat} {m : Nat}, (ms.take i)[j]? = some m → j < i ∧ ms[j]? = some m := by
        intro i j m hj
        rw [List.getElem?_take] at hj
        split at hj
        · exact ⟨by assumption, hj⟩
        · cases hj
      have hpre : ∀ (i : Nat) (o : Oper), ops[i]? = some o → ∀ e ∈ o.after, Region.binds .any e = true → e.on < i ∧ (maskAt p i).testBit e.on = true ∧ ∀ k, (maskAt p e.on).testBit k = true → (maskAt p i).testBit k = true := by
        intro i o ho e he hb
        obtain ⟨m, k1, k2⟩ := h3 i o ho
        obtain ⟨me, q1, q2, q3⟩ := (edgesOf_ok k1).1 e (by simpa using he) hb
        obtain ⟨hlt, q1⟩ := take_get q1
        simp only [List.length_nil, Nat.zero_add] at hlt k2
        rw [hmask, hmask]
        simp only [List.getD_eq_getElem?_getD, k2, q1, Option.getD_some]
        exact ⟨hlt, q2, q3⟩
      have honly : ∀ (i : Nat) (o : Oper), ops[i]? = some o → ∀ k, (maskAt p i).testBit k = true → ∃ e ∈ o.after, Region.binds .any e = true ∧ (k = e.on ∨ (maskAt p e.on).testBit k = true) := by
        intro i o ho k hk
        obtain ⟨m, k1, k2⟩ := h3 i o ho
        simp only [List.length_nil, Nat.zero_add] at k2
        rw [hmask] at hk
        simp only [List.getD_eq_getElem?_getD, k2, Option.getD_some] at hk
        obtain ⟨e, q1, q2, q3⟩ := (edgesOf_ok k1).2 k hk
        refine ⟨e, by simpa using q1, q2, ?_⟩
        rcases q3 with q3 | ⟨me, q3, q4⟩
        · exact .inl q3
        · refine .inr ?_
          rw [hmask]
          simp only [List.getD_eq_getElem?_getD, (take_get q3).2, Option.getD_some, q4]
      have hout : ∀ i, ops.length ≤ i → maskAt p i = 0 := by
        intro i hi
        rw [hmask]
        simp [List.getD_eq_getElem?_getD, List.getElem?_eq_none (by omega : ms.length ≤ i)]
      have htr : ∀ c a b : Nat, (maskAt p c).testBit b = true → (maskAt p b).testBit a = true → (maskAt p c).testBit a = true := by
        intro c
        induction c using Nat.strongRecOn with
        | _ c ih =>
          intro a b hb ha
          by_cases hlt : c < ops.length
          · obtain ⟨e, q1, q2, q3⟩ := honly c _ (List.getElem?_eq_getElem hlt) b hb
            obtain ⟨w1, w2, w3⟩ := hpre c _ (List.getElem?_eq_getElem hlt) e q1 q2
            rcases q3 with rfl | q3
            · exact w3 a ha
            · exact w3 a (ih e.on w1 a b q3 ha)
          · rw [hout c (by omega)] at hb; simp at hb
      refine ⟨hpre, honly, hout, ?_, ?_, ?_⟩
      · intro i o d ho hd j x hx hij
        unfold apartOk at hap
        rw [List.all_eq_true] at hap
        have := hap (o, i) (by rw [List.mem_zipIdx_iff_getElem?]; exact ho)
        simp only [hd] at this
        rw [List.all_eq_true] at this
        have := this (x, j) (by rw [List.mem_zipIdx_iff_getElem?]; exact hx)
        have hne : (i == j) = false := by simpa using hij
        simp only [hne, Bool.false_or, Bool.and_eq_true, Bool.or_eq_true, bne_iff_ne, ne_eq, Bool.not_eq_true'] at this
        refine ⟨this.1, fun hn => ?_⟩
        rcases this.2 with h | h
        · rw [List.contains_iff_mem.2 hn] at h; cases h
        · rw [hmask, hmask]
          by_cases hl : i < j
          · simp only [hl, decide_true] at h; exact .inl ⟨hl, h⟩
          · simp only [hl, decide_false] at h; exact .inr ⟨by omega, h⟩
      · intro i j o x ho hx ko kx hij
        have hp := chained_ok (ms := ms) (fun a b c => by rw [← hmask, ← hmask]; exact htr c a b) hch
        rw [hmask]
        have m1 := mem_effs.2 ⟨o, ho, ko⟩
        have m2 := mem_effs.2 ⟨x, hx, kx⟩
        have hs := effs_sorted ops
        obtain ⟨u, hu, rfl⟩ := List.getElem_of_mem m1
        obtain ⟨v, hv, rfl⟩ := List.getElem_of_mem m2
        rw [List.pairwise_iff_getElem] at hs hp
        rcases Nat.lt_trichotomy u v with h | h | h
        · exact hp u v hu hv h
        · subst h; omega
        · have := hs v u hv hu h; omega
      · intro k
        rw [← mem_effs, ← h]
        rw [bits_fold]
        simp

theorem PlanOk.lt {ops : List Oper} {p : Plan} (h : PlanOk ops p) : ∀ (i k : Nat), (maskAt p i).testBit k = true → k < i := by
  intro i
  induction i using Nat.strongRecOn with
  | _ i ih =>
    intro k hk
    by_cases hlt : i < ops.length
    · obtain ⟨e, q1, q2, q3⟩ := h.only i _ (List.getElem?_eq_getElem hlt) k hk
      have w1 := (h.pre i _ (List.getElem?_eq_getElem hlt) e q1 q2).1
      rcases q3 with rfl | q3
      · exact w1
      · exact Nat.lt_trans (ih e.on w1 k q3) w1
    · rw [h.out i (by omega)] at hk; simp at hk

end Go.Cx

/-
  CxI: what the evaluator saw on its way through a region that draws its order.
-/

namespace Go.Cx
variable {P : Program} [Tab P] [TabOk P]

theorem same_of_keep {σ σ' : Hp} {x : Res Value} {v : Value} (h : keep σ x = .ok (v, σ')) : σ' = σ := (keep_ok.1 h).2

theorem load_same0 {σ σ' : Hp} {fr : Fr} {o : Oper} {v : Value} (hk : kd o = .load) (h : plain0 P fr σ o = .ok (v, σ')) : σ' = σ := by
  unfold kd at hk
  unfold plain0 at h
  cases hop : o.op <;> simp only [hop] at h hk
  case load => exact same_of_keep h
  case lookup => exact same_of_keep h
  case entry => exact same_of_keep h
  case slice =>
    unfold opSlice at h
    exact same_of_keep (sure_ok.1 h).2
  case convert =>
    unfold opConvert at h
    split at h
    · cases h; rfl
    · split at h
      · obtain ⟨l, _, h⟩ := Res.bind_ok.1 h; cases h; rfl
      · cases h
    · exact same_of_keep h
    · exact same_of_keep h
    · cases h
    · exact same_of_keep h
  case binOp op t x y yt =>
    unfold opBin at h
    split at h
    · unfold opBinInt at h
      split at h
      · split at h
        · cases h; rfl
        · exact same_of_keep h
      · split at h
        · cases h; rfl
        · exact same_of_keep h
      · split at h
        · split at h
          · cases h; rfl
          · exact same_of_keep h
        · cases h
    · split at h
      · exact same_of_keep h
      · unfold opEq at h
        split at h
        · obtain ⟨b, _, h⟩ := Res.bind_ok.1 h; cases h; rfl
        · obtain ⟨b, _, h⟩ := Res.bind_ok.1 h; cases h; rfl
        · cases h
  case call c =>
    unfold opBuiltin at h
    obtain ⟨callee, args, argTypes⟩ := c
    simp only at h hk
    cases callee with
    | builtin b =>
      simp only at h
      cases b <;> simp only [reduceCtorEq] at hk
      case len =>
        generalize args.toList = l at h
        rcases l with _ | ⟨x, _ | ⟨y, l⟩⟩ <;> simp only [builtin] at h
        · exact same_of_keep h
        · unfold opLen at h
          split at h
          · cases h; rfl
          · cases h; rfl
          · obtain ⟨m, _, h⟩ := Res.bind_ok.1 h; cases h; rfl
          · cases h; rfl
          · cases h; rfl
          · cases h
        · exact same_of_keep h
      case cap =>
        generalize args.toList = l at h
        rcases l with _ | ⟨x, _ | ⟨y, l⟩⟩ <;> simp only [builtin] at h
        · exact same_of_keep h
        · unfold opCap at h
          split at h
          · cases h; rfl
          · split at h
            · cases h; rfl
            · cases h
          · cases h
        · exact same_of_keep h
      case unsafeSliceData =>
        generalize args.toList = l at h
        rcases l with _ | ⟨x, _ | ⟨y, l⟩⟩ <;> simp only [builtin] at h
        · exact same_of_keep h
        · unfold opSliceData at h
          split at h
          · cases h; rfl
          · split at h
            · cases h; rfl
            · cases h
          · cases h
        · exact same_of_keep h
    | value f => cases h
    | invoke r n => cases h
  all_goals first | (cases hk) | (cases h)

theorem load_same {σ σ' : Hp} {fr : Fr} {o : Oper} {v : Value} (hk : kd o = .load) (h : plain P fr σ o = .ok (v, σ')) : σ' = σ := by
  unfold plain at h
  split at h
  · rename_i r hp
    cases h
    exact load_same0 hk hp
  · unfold extra at h
    split at h
    · cases h; rfl
    · split at h
      · unfold lookupT at h
        split at h
        · obtain ⟨x, _, h⟩ := Res.bind_ok.1 h
          obtain ⟨_, h⟩ := sure_ok.1 h
          obtain ⟨z, _, h⟩ := Res.bind_ok.1 h
          cases h; rfl
        · cases h
      · rename_i c hop
        split at h
        · rename_i d x hc ha
          unfold kd at hk
          rw [hop] at hk
          obtain ⟨callee, args, argTypes⟩ := c
          simp only at hc
          subst hc
          cases hk
        · rename_i d x hc ha
          unfold kd at hk
          rw [hop] at hk
          obtain ⟨callee, args, argTypes⟩ := c
          simp only at hc
          subst hc
          cases hk
        · unfold lenT at h
          split at h
          · split at h
            · obtain ⟨_, h⟩ := sure_ok.1 h; cases h; rfl
            · cases h
          · cases h
        · unfold dataT at h
          split at h
          · split at h
            · obtain ⟨_, h⟩ := sure_ok.1 h; cases h; rfl
            · cases h
          · cases h
        · rename_i d x hc ha
          unfold kd at hk
          rw [hop] at hk
          obtain ⟨callee, args, argTypes⟩ := c
          simp only at hc
          subst hc
          cases hk
        · cases h
      · cases h

end Go.Cx
