/-
  CxZf: tables of names: what operations on them yield, row by row.
-/
import Derived.Test.YtglglgkaadfhpaaGreatDoorXZ
set_option linter.all false
namespace Go.Cx

inductive Key where
  | bin (op : BinOp) (t : TypeId)
  | len (t : TypeId)
  | sl (t : TypeId) (lo hi : Bool)
  | mn
  | mx
  | idx (t : TypeId)
  | cv (s d : TypeId)
  deriving DecidableEq

def opKey : Op → Option Key
  | .binOp op t _ _ _ => some (.bin op t)
  | .slice t _ lo hi none => some (.sl t lo.isSome hi.isSome)
  | .index t _ _ => some (.idx t)
  | .convert s d _ => some (.cv s d)
  | .call c => match c.callee with
    | .builtin .len => (c.argTypes[0]?).map .len
    | .builtin .min => some .mn
    | .builtin .max => some .mx
    | _ => none
  | _ => none

def semOf : Key → List Value → Sem Value
  | .bin op t, [a, b] => Go.binOp op t a b
  | .len t, [a] => Builtin.len_ #[t] 0 #[a]
  | .sl t true true, [x, l, h] => Instr.sliceAt t x (some l) (some h) none
  | .sl t true false, [x, l] => Instr.sliceAt t x (some l) none none
  | .sl t false true, [x, h] => Instr.sliceAt t x none (some h) none
  | .mn, [a, b] => Builtin.min_ #[] 0 #[a, b]
  | .mx, [a, b] => Builtin.max_ #[] 0 #[a, b]
  | .idx t, [x, i] => Instr.index t x i
  | .cv s d, [x] => Go.convert s d x
  | _, _ => stuck "no key"

def scalar : Value → Bool
  | .bool _ => true
  | .int .. => true
  | .string _ => true
  | _ => false

theorem run_eqGuard {P : Program} {op : BinOp} {t : TypeId} {x y : Operand} {a b : Value} (ha : scalar a = true) (w : World) : (eqGuard op t x y a b).run P w = .ok () w := by
  unfold eqGuard
  cases a <;> simp [scalar] at ha <;> (split <;> first | rfl | (cases b <;> rfl))

theorem run_val {P : Program} {s : Sem Value} {v' : Value} {w w' : World} (h : s.run P w = .ok v' w') : (do Pure.pure (Next.value (← s)) : Sem Next).run P w = .ok (.value v') w' := by
  simp [h, Result.andThen]

theorem exec_key {P : Program} {o : Oper} {ρ : Operand → Value} {k : Key} {r : Value} (hk : opKey o.op = some k) (hs : ∀ v ∈ o.op.operands.toList.map ρ, scalar v = true) (h : prun P (semOf k (o.op.operands.toList.map ρ)) = some r) (w : World) :
    (execOp ρ o).run P w = .ok (.value r) w := by
  unfold opKey at hk
  split at hk
  · rename_i op t x y yt hop
    cases hk
    have e : (Op.binOp op t x y yt).operands.toList.map ρ = [ρ x, ρ y] := by simp [Op.operands]
    rw [hop, e] at hs h
    have hr := prun_run (show prun P (Go.binOp op t (ρ x) (ρ y)) = some r from h) w
    have hg := run_eqGuard (P := P) (op := op) (t := t) (x := x) (y := y) (b := ρ y) (hs (ρ x) (by simp)) w
    simp [execOp, hop, hg, hr, Result.andThen]
  · rename_i t x lo hi hop
    cases hk
    rw [hop] at h
    have key : prun P (Instr.sliceAt t (ρ x) (lo.map ρ) (hi.map ρ) none) = some r := by
      cases lo <;> cases hi <;> simp [Op.operands, semOf] at h <;> first | exact h | skip
    simp [execOp, hop, prun_run key w, Result.andThen]
  · rename_i t x i hop
    cases hk
    rw [hop] at h
    have e : (Op.index t x i).operands.toList.map ρ = [ρ x, ρ i] := by simp [Op.operands]
    rw [e] at h
    have hr := prun_run (show prun P (Instr.index t (ρ x) (ρ i)) = some r from h) w
    simp [execOp, hop, hr, Result.andThen]
  · rename_i s d x hop
    cases hk
    rw [hop] at h
    have e : (Op.convert s d x).operands.toList.map ρ = [ρ x] := by simp [Op.operands]
    rw [e] at h
    have hr := prun_run (show prun P (Go.convert s d (ρ x)) = some r from h) w
    simp [execOp, hop, hr, Result.andThen]
  · rename_i c hop
    have e : (Op.call c).operands.toList.map ρ = c.operands.toList.map ρ := by simp [Op.operands]
    rw [hop, e] at h
    split at hk
    · rename_i hc
      obtain ⟨_, hex⟩ := exec_builtin (ρ := ρ) hop hc
      obtain ⟨t, ht, hk⟩ := Option.map_eq_some_iff.1 hk
      subst hk
      have e2 : c.operands = c.args := by simp [Call.operands, hc]
      rw [e2] at h
      rcases hl : c.args.toList with _ | ⟨a, _ | ⟨b, l⟩⟩
      · rw [hl] at h; simp [semOf] at h
      · rw [hl] at h
        have hr := prun_run (show prun P (Builtin.len_ #[t] 0 #[ρ a]) = some r from h) w
        have h1 : (Builtin.len_ c.argTypes o.type #[ρ a]).run P w = .ok r w := by
          have : Builtin.len_ c.argTypes o.type #[ρ a] = Builtin.len_ #[t] 0 #[ρ a] := by
            unfold Builtin.len_; simp [ht]
          rw [this]; exact hr
        rw [hex, map_list hl]
        exact run_val h1
      · rw [hl] at h; simp [semOf] at h
    · rename_i hc
      obtain ⟨_, hex⟩ := exec_builtin (ρ := ρ) hop hc
      cases hk
      have e2 : c.operands = c.args := by simp [Call.operands, hc]
      rw [e2] at h
      rcases hl : c.args.toList with _ | ⟨a, _ | ⟨b, _ | ⟨d, l⟩⟩⟩
      · rw [hl] at h; simp [semOf] at h
      · rw [hl] at h; simp [semOf] at h
      · rw [hl] at h
        have hr := prun_run (show prun P (Builtin.min_ #[] 0 #[ρ a, ρ b]) = some r from h) w
        rw [hex, map_list hl]
        exact run_val hr
      · rw [hl] at h; simp [semOf] at h
    · rename_i hc
      obtain ⟨_, hex⟩ := exec_builtin (ρ := ρ) hop hc
      cases hk
      have e2 : c.operands = c.args := by simp [Call.operands, hc]
      rw [e2] at h
      rcases hl : c.args.toList with _ | ⟨a, _ | ⟨b, _ | ⟨d, l⟩⟩⟩
      · rw [hl] at h; simp [semOf] at h
      · rw [hl] at h; simp [semOf] at h
      · rw [hl] at h
        have hr := prun_run (show prun P (Builtin.max_ #[] 0 #[ρ a, ρ b]) = some r from h) w
        rw [hex, map_list hl]
        exact run_val hr
      · rw [hl] at h; simp [semOf] at h
    · cases hk
  · cases hk

/-- A fact: a key, operands, what comes. -/
structure Fact where
  k : Key
  args : List Value
  r : Value

def findFact : List Fact → Key → List Value → Option Value
  | [], _, _ => none
  | x :: l, k, vs => match decide (x.k = k) && allTwo (veq 8) x.args vs with
    | true => some x.r
    | false => findFact l k vs

theorem findFact_ok {k : Key} {vs : List Value} {r : Value} : ∀ {l : List Fact}, findFact l k vs = some r → ∃ x ∈ l, x.k = k ∧ x.args = vs ∧ x.r = r := by
  intro l
  induction l with
  | nil => intro h; cases h
  | cons x l ih =>
    intro h
    unfold findFact at h
    split at h
    · rename_i hf
      cases h
      simp only [Bool.and_eq_true, decide_eq_true_eq] at hf
      exact ⟨x, by simp, hf.1, allTwo_eq (fun a b => veq_eq 8 a b) hf.2, rfl⟩
    · obtain ⟨y, h1, h2⟩ := ih h
      exact ⟨y, List.mem_cons_of_mem _ h1, h2⟩

/-- What a value stands for: a name for its value, another one for itself. -/
def Den (nm : Nat → Option Value) (v u : Value) : Prop := (∃ b, v = .chan (some b) ∧ nm b = some u) ∨ (flat 8 v = true ∧ u = v)

theorem Den.rel {nm : Nat → Option Value} {ι : Emb} (hn : ∀ b v, nm b = some v → ι b = .val v) {v u : Value} (h : Den nm v u) (h1 : oneCell u = true) : VRel ι v u := by
  rcases h with ⟨b, rfl, hb⟩ | ⟨hf, rfl⟩
  · exact .sym b ⟨hn b u hb, h1⟩
  · exact flat_refl ι 8 _ hf

theorem Den.eq {nm : Nat → Option Value} {ι : Emb} (hn : ∀ b v, nm b = some v → ι b = .val v) {v u u' : Value} (h : Den nm v u) (k : VRel ι v u') : u' = u := by
  rcases h with ⟨b, rfl, hb⟩ | ⟨hf, rfl⟩
  · generalize hq : Value.chan (some b) = q at k
    cases k with
    | sym c hc =>
      cases hq
      have h1 := hc.1
      rw [hn _ u hb] at h1
      cases h1; rfl
    | _ => cases hq
  · exact flat_eq 8 hf k

inductive DenL (nm : Nat → Option Value) : List Value → List Value → Prop where
  | nil : DenL nm [] []
  | cons {v u vs us} (h : Den nm v u) (t : DenL nm vs us) : DenL nm (v :: vs) (u :: us)

theorem DenL.eq {nm : Nat → Option Value} {ι : Emb} (hn : ∀ b v, nm b = some v → ι b = .val v) {vs us us' : List Value} (h : DenL nm vs us) (k : LRel (VRel ι) vs us') : us' = us := by
  induction h generalizing us' with
  | nil => cases k; rfl
  | cons h _ ih => cases k with | cons h' t' => rw [h.eq hn h', ih t']

/-- A fact holds. -/
def FactOk (P : Program) (nm : Nat → Option Value) (x : Fact) : Prop :=
  ∃ us u, DenL nm x.args us ∧ (us.all scalar) = true ∧ Den nm x.r u ∧ oneCell u = true ∧ prun P (semOf x.k us) = some u

/-- What a table has beside facts. -/
structure Parts where
  text : Nat → Option (List Value)
  apart : TypeId → Value → List Value → Bool
  cmp : List Value → List Value → Option Int
  short : Nat → Bool
  byte : Nat → Bool
  join : List Value → Option Value
  same : TypeId → Value → Value → Option Bool

def factOf (l : List Fact) (p : Parts) (k : Key) (vs : List Value) : Option Value :=
  match findFact l k vs with
  | some v => some v
  | none => match k, vs with
    | .bin .eql t, [a, b] => (p.same t a b).map .bool
    | _, _ => none

/-- A table. -/
@[reducible] def mkTab (P : Program) (nm : Nat → Option Value) (l : List Fact) (p : Parts) : Tab P :=
  ⟨nm, fun op vs => match opKey op with
    | some k => factOf l p k vs
    | none => none, p.text, p.apart, p.cmp, p.short, p.byte, p.join⟩

theorem find_fact {P : Program} {nm : Nat → Option Value} {l : List Fact} (hl : ∀ x ∈ l, FactOk P nm x) {ι : Emb} (hn : ∀ b v, nm b = some v → ι b = .val v) {o : Oper} {vs : List Value} {r : Value} {ρ : Operand → Value}
    (h : (match opKey o.op with | some k => findFact l k vs | none => none) = some r) (ha : LRel (VRel ι) vs (o.op.operands.toList.map ρ)) : ∃ v', (∀ w, (execOp ρ o).run P w = .ok (.value v') w) ∧ VRel ι r v' := by
  split at h
  · rename_i k hk
    obtain ⟨x, hx, rfl, rfl, rfl⟩ := findFact_ok h
    obtain ⟨us, u, h1, h2, h3, h4, h5⟩ := hl x hx
    have e := h1.eq hn ha
    refine ⟨u, fun w => exec_key hk ?_ ?_ w, h3.rel hn h4⟩
    · rw [e]; exact List.all_eq_true.1 h2
    · rw [e]; exact h5
  · cases h

theorem Den.sym_eq {nm : Nat → Option Value} {ι : Emb} (hn : ∀ b v, nm b = some v → ι b = .val v) {b : Nat} {u v' : Value} (hb : nm b = some u) (k : VRel ι (symv b) v') : v' = u := Den.eq hn (.inl ⟨b, rfl, hb⟩) k

/-- What is asked of the parts. -/
structure PartsOk (P : Program) (nm : Nat → Option Value) (p : Parts) : Prop where
  text : ∀ b cs, p.text b = some cs → ∃ (s : ByteArray) (us : List Value), nm b = some (.string s) ∧ DenL nm cs us ∧ us = s.data.toList.map byteV
  apart : ∀ {ι : Emb}, (∀ b v, nm b = some v → ι b = .val v) → ∀ {kt : TypeId} {k k' : Value} {keys : List Value}, p.apart kt k keys = true → VRel ι k k' →
    (∀ e, prun P (Instr.checkKey e 10000 kt k') = some ()) ∧ ∀ es : List MapEntry, es.map (·.key) = keys → prun P (Instr.findKey kt k' es) = some none
  cmp : ∀ {ι : Emb}, (∀ b v, nm b = some v → ι b = .val v) → ∀ {a b a' b' : List Value} {c : Int}, p.cmp a b = some c → LRel (VRel ι) a a' → LRel (VRel ι) b b' →
    ∃ x y : List UInt8, a' = x.map byteV ∧ b' = y.map byteV ∧ Extern.BytealgCompare.cmp ⟨x.toArray⟩ ⟨y.toArray⟩ = c
  short : ∀ b, p.short b = true → ∃ s : ByteArray, nm b = some (.string s) ∧ s.size ≤ 1048576
  byte : ∀ b, p.byte b = true → ∃ c : UInt8, nm b = some (byteV c)
  join : ∀ {ι : Emb}, (∀ b v, nm b = some v → ι b = .val v) → ∀ {l : List Value} {v : Value} {bs : List UInt8}, p.join l = some v → CDen ι l bs → VRel ι v (.string ⟨bs.toArray⟩)
  same : ∀ {ι : Emb}, (∀ b v, nm b = some v → ι b = .val v) → ∀ {t : TypeId} {a b a' b' : Value} {r : Bool}, p.same t a b = some r → VRel ι a a' → VRel ι b b' →
    (∃ cs ds, a' = .agg cs ∧ b' = .agg ds) ∧ P.eqGuardType P.depth t = false ∧ prun P (Op.equal t a' b') = some r

theorem exec_same {P : Program} {o : Oper} {ρ : Operand → Value} {t : TypeId} {r : Bool} (hk : opKey o.op = some (.bin .eql t)) {a b : Value} (ha : o.op.operands.toList.map ρ = [a, b]) (hag : ∃ cs ds, a = .agg cs ∧ b = .agg ds) (hg : P.eqGuardType P.depth t = false)
    (h : prun P (Op.equal t a b) = some r) (w : World) : (execOp ρ o).run P w = .ok (.value (.bool r)) w := by
  obtain ⟨cs, ds, rfl, rfl⟩ := hag
  have hr := prun_run h w
  unfold opKey at hk
  split at hk
  · rename_i op t' x y yt hop
    cases hk
    rw [hop] at ha
    simp only [Op.operands, List.map_cons, List.map_nil, List.cons.injEq, and_true] at ha
    have hgd : (eqGuard .eql t x y (.agg cs) (.agg ds)).run P w = .ok () w := by
      unfold eqGuard
      simp [program, Sem.run, Result.andThen, hg]
    simp only [execOp, hop, ha.1, ha.2]
    simp [hgd, Go.binOp, hr, Result.andThen]
  all_goals first
    | (cases hk; done)
    | (split at hk <;> first | (cases hk; done) | (simp at hk; done) | skip)
  all_goals simp at hk

theorem mkTab_ok {P : Program} {nm : Nat → Option Value} {l : List Fact} {p : Parts} (hl : ∀ x ∈ l, FactOk P nm x) (hp : PartsOk P nm p) : @TabOk P (mkTab P nm l p) :=
  @TabOk.mk P (mkTab P nm l p) (fun _ _ => rfl) (fun hn o vs r ρ h ha => by
      have h : (match opKey o.op with | some k => factOf l p k vs | none => none) = some r := h
      cases hk : opKey o.op with
      | none => rw [hk] at h; cases h
      | some k =>
        rw [hk] at h
        simp only [factOf] at h
        split at h
        · rename_i u hu
          cases h
          exact find_fact hl hn (by rw [hk]; exact hu) ha
        · split at h
          · rename_i t a b hf
            obtain ⟨q, hq, rfl⟩ := Option.map_eq_some_iff.1 h
            generalize hx : o.op.operands.toList.map ρ = xs at ha
            cases ha with
            | cons h1 t1 => cases t1 with
              | cons h2 t2 => cases t2 with
                | nil =>
                  obtain ⟨g1, g2, g3⟩ := hp.same hn hq h1 h2
                  exact ⟨.bool q, fun w => exec_same hk hx g1 g2 g3 w, .bool q⟩
          · cases h)
    (fun {ι} hn {b cs v'} h k => by
      obtain ⟨s, us, h1, h2, h3⟩ := hp.text b cs h
      refine ⟨s, Den.sym_eq hn h1 k, ?_⟩
      have hone : us.all oneCell = true := by
        rw [h3]
        simp only [List.all_map, List.all_eq_true]
        intro x _; rfl
      rw [← h3]
      clear h3 h1 h
      induction h2 with
      | nil => exact .nil
      | cons h _ ih =>
        simp only [List.all_cons, Bool.and_eq_true] at hone
        exact .cons (h.rel hn hone.1) (ih hone.2))
    (fun hn _ _ _ _ h k => hp.apart hn h k) (fun hn _ _ _ _ _ h k1 k2 => hp.cmp hn h k1 k2)
    (fun hn b v' h k => by obtain ⟨s, h1, h2⟩ := hp.short b h; exact ⟨s, Den.sym_eq hn h1 k, h2⟩)
    (fun hn b v' h k => by obtain ⟨c, h1⟩ := hp.byte b h; exact ⟨c, Den.sym_eq hn h1 k⟩)
    (fun hn _ _ _ h k => hp.join hn h k)

@[reducible] def noParts : Parts := ⟨fun _ => none, fun _ _ _ => false, fun _ _ => none, fun _ => false, fun _ => false, fun _ => none, fun _ _ _ => none⟩

theorem noParts_ok (P : Program) (nm : Nat → Option Value) : PartsOk P nm noParts :=
  ⟨fun _ _ h => (by cases h), fun _ _ _ _ _ h => (by cases h), fun _ _ _ _ _ _ h => (by cases h), fun _ h => (by cases h), fun _ h => (by cases h), fun _ _ _ _ h => (by cases h), fun _ _ _ _ _ _ _ h => (by cases h)⟩

/-- A table of facts alone. -/
@[reducible] def factTab (P : Program) (nm : Nat → Option Value) (l : List Fact) : Tab P := mkTab P nm l noParts

theorem factTab_ok {P : Program} {nm : Nat → Option Value} {l : List Fact} (hl : ∀ x ∈ l, FactOk P nm x) : @TabOk P (factTab P nm l) := mkTab_ok hl (noParts_ok P nm)

end Go.Cx

/-
  CxZg: a run with names of its own.
-/

namespace Go.Cx

/-- What stands below for itself: rows, variables that nobody looks at, names. -/
def own (T2 : Nat → Option Value) (g : Nat) (σl : Hp) (ι : Emb) : Emb := fun b => match (σl.get b).isSome with
  | true => ι b
  | false => if b < g then .dead else match T2 b with
    | some v => .val v
    | none => .unborn

theorem own_run {P : Program} (T1 T2 : Tab P) (T2ok : @TabOk P T2) {O : Oracle} (henv : @Env P T2 O) {F : Fence} (ho : Opn F) {n : Nat} {f : FuncId} {args : List Value} {σl σl' : Hp} {v u : Value}
    (hrun : (@go P T2 O n).call f args σl = .ok (v, σl')) (hrows : Rows σl) (hbase : P.globals.size ≤ σl.next) (hnm : ∀ b v, @Tab.nm P T2 b = some v → σl.get b = none ∧ P.globals.size ≤ b ∧ b < σl.next)
    (hv : ∀ (ι3 : Emb) v', (∀ b u, b < σl.next → @Tab.nm P T2 b = some u → ι3 b = .val u) → VRel ι3 v v' → v' = u) (hsame : ∀ b o, σl.get b = some o → σl'.get b = some o)
    {σ : Hp} {ι : Emb} {w : World} {args' : Array Value} (hsub : ∀ b o, σl.get b = some o → σ.get b = some o) (hr : @Rel P T1 ι σ w)
    (hargs : ∀ ι2 : Emb, (∀ b v, @Tab.nm P T2 b = some v → ι2 b = .val v) → LRel (VRel ι2) args args'.toList) :
    Gives F P (fun v' w' => v' = u ∧ @Rel P T1 ι σ w' ∧ Step ι σ w ι σ w') ((callFunc f args').run P w) := by
  have rlive := @Rel.live P T1 _ _ _ hr
  have rinj := @Rel.inj P T1 _ _ _ hr
  have rbound := @Rel.bound P T1 _ _ _ hr
  generalize hι2 : own (@Tab.nm P T2) P.globals.size σl ι = ι2
  have hι : ∀ b o, σl.get b = some o → ι2 b = ι b := fun b o h => by simp [← hι2, own, h]
  have hnone : ∀ b, σl.get b = none → ι2 b = if b < P.globals.size then .dead else match @Tab.nm P T2 b with | some v => .val v | none => .unborn := fun b h => by simp [← hι2, own, h]
  have hlive : ∀ b s, ι2 b = .live s → ι b = .live s ∧ σl.is b := by
    intro b s h
    cases hq : σl.get b with
    | none =>
      rw [hnone b hq] at h
      split at h
      · cases h
      · split at h <;> cases h
    | some o => rw [hι b o hq] at h; exact ⟨h, o, hq⟩
  have hnames : ∀ b v, @Tab.nm P T2 b = some v → ι2 b = .val v := by
    intro b v h
    obtain ⟨h1, h2, h3⟩ := hnm b v h
    rw [hnone b h1, if_neg (by omega), h]
  have hr2 : @Rel P T2 ι2 σl w := by
    refine @Rel.mk P T2 _ _ _ ?_ ?_ ?_ ?_ ?_ hbase (fun b o h => (hrows.row b o h).1) hnames
    · intro b o h
      obtain ⟨s, h1, o', h2, h3⟩ := rlive b o (hsub b o h)
      obtain ⟨_, l, e, rfl, hl⟩ := hrows.row b o h
      exact ⟨s, by rw [hι b _ h]; exact h1, o', h2, h3.flat hl⟩
    · intro b c s t h1 h2 h3; exact rinj b c s t (hlive b s h1).1 (hlive c t h2).1 h3
    · intro b s h1; exact rbound b s (hlive b s h1).1
    · intro b s hb h1; exact @Rel.glob P T1 _ _ _ hr b s hb (hlive b s h1).1
    · intro b hb
      cases hq : σl.get b with
      | none => rw [hnone b hq, if_pos hb]; trivial
      | some o => rw [hι b o hq]; exact @Rel.gborn P T1 _ _ _ hr b hb
  have hfree2 : Free ι2 σl.next := by
    intro b hb
    have h1 : σl.get b = none := by
      cases hq : σl.get b with
      | none => rfl
      | some o => have := (hrows.row b o hq).1; omega
    rw [hnone b h1, if_neg (by omega)]
    cases hq : @Tab.nm P T2 b with
    | none => rfl
    | some v => have := (hnm b v hq).2.2; omega
  refine (@Sound.call P T2 _ (@go_sound P T2 T2ok O henv n) F ho _ _ _ _ _ _ _ _ hrun hr2 hfree2 (hargs ι2 hnames)).mono ?_
  rintro v' w' ⟨ι3, k1, k2, k3⟩
  have klive := @Rel.live P T2 _ _ _ k1
  have e := hv ι3 v' (fun b u _ hb => @Rel.names P T2 _ _ _ k1 b u hb) k3
  have hout : ∀ b s, ι b = .live s → ¬ σl.is b → w'.heap[s.x]? = w.heap[s.x]? := by
    intro b s hb hn
    refine k2.frame s.x (rbound b s hb) fun c t hc ht hx => ?_
    have := rinj c b t s (hlive c t ht).1 hb hx
    subst this
    exact hn hc
  refine ⟨e, @Rel.mk P T1 _ _ _ ?_ rinj (fun b s hb => Nat.lt_of_lt_of_le (rbound b s hb) k2.size) (@Rel.glob P T1 _ _ _ hr) (@Rel.gborn P T1 _ _ _ hr) (@Rel.base P T1 _ _ _ hr) (@Rel.ids P T1 _ _ _ hr) (@Rel.names P T1 _ _ _ hr),
    ⟨Nat.le_refl _, k2.size, fun _ _ => .inl rfl, ?_, fun b s h1 h2 _ => absurd h1 (by omega), fun _ _ h => h, k2.tape, k2.os, k2.output⟩⟩
  · intro b o hbo
    cases hq : σl.get b with
    | none =>
      obtain ⟨s, h1, o', h2, h3⟩ := rlive b o hbo
      exact ⟨s, h1, o', by rw [hout b s h1 fun ⟨o, ho⟩ => by rw [hq] at ho; cases ho]; exact h2, h3⟩
    | some o2 =>
      have e := hsub b o2 hq
      rw [hbo] at e
      cases e
      obtain ⟨s, h1, o', h2, h3⟩ := klive b o (hsame b o hq)
      obtain ⟨hb, l, e, rfl, hl⟩ := hrows.row b o hq
      have : ι b = .live s := by
        rcases k2.old b (.inl hb) with q | ⟨q, _⟩
        · rw [← hι b _ hq, ← q]; exact h1
        · rw [q] at h1; cases h1
      exact ⟨s, this, o', h2, h3.flat hl⟩
  · intro x hx hn
    refine k2.frame x hx fun c t ⟨o, hc⟩ ht => hn c t ⟨o, hsub c o hc⟩ (hlive c t ht).1

/-- A call that needs nothing and does nothing but yield 'u'. -/
def Yields (P : Program) (f : FuncId) (args : Array Value) (u : Value) : Prop :=
  ∀ (T : Tab P) {F : Fence}, Opn F → ∀ {σ : Hp} {ι : Emb} {w : World}, @Rel P T ι σ w → Gives F P (fun v' w' => v' = u ∧ @Rel P T ι σ w' ∧ Step ι σ w ι σ w') ((callFunc f args).run P w)

/-- A run without a heap, with names of its own. -/
theorem yields_tab {P : Program} (nm : Nat → Option Value) (l : List Fact) (p : Parts) (hl : ∀ x ∈ l, FactOk P nm x) (hp : PartsOk P nm p) {O : Oracle} (henv : @Env P (mkTab P nm l p) O) {k n : Nat} {f : FuncId} {args us : List Value} {v u : Value} {σ' : Hp} (hbase : P.globals.size ≤ n)
    (hnm : ∀ b v, nm b = some v → P.globals.size ≤ b ∧ b < n) 
    (hv : ∀ (ι3 : Emb) v', (∀ b u, nm b = some u → ι3 b = .val u) → VRel ι3 v v' → v' = u)
    (hargs : ∀ ι : Emb, (∀ b v, nm b = some v → ι b = .val v) → LRel (VRel ι) args us)
    (h : (@go P (mkTab P nm l p) O k).call f args ⟨.nil, n⟩ = .ok (v, σ')) : Yields P f us.toArray u := by
  intro T F ho σ ι w hr
  have hget : ∀ (b : Nat), (⟨.nil, n⟩ : Hp).get b = none := fun b => by simp [Hp.get, Tr.get_nil]
  refine own_run T (mkTab P nm l p) (mkTab_ok hl hp) henv ho h ⟨fun b o hb => by rw [hget] at hb; cases hb⟩ hbase (fun b v hb => ⟨hget b, hnm b v hb⟩) (fun ι3 v' h1 h2 => hv ι3 v' (fun b u hb => h1 b u (hnm b u hb).2 hb) h2) (fun b o hb => by rw [hget] at hb; cases hb) (fun b o hb => by rw [hget] at hb; cases hb) hr fun ι2 h2 => ?_
  have : us.toArray.toList = us := by simp
  rw [this]
  exact hargs ι2 h2

theorem denl_rel {nm : Nat → Option Value} {ι : Emb} (hn : ∀ b v, nm b = some v → ι b = .val v) {vs us : List Value} (h : DenL nm vs us) (h1 : us.all oneCell = true) : LRel (VRel ι) vs us := by
  induction h with
  | nil => exact .nil
  | cons h _ ih =>
    simp only [List.all_cons, Bool.and_eq_true] at h1
    exact .cons (h.rel hn h1.1) (ih h1.2)

theorem yields_run {P : Program} (nm : Nat → Option Value) (l : List Fact) (hl : ∀ x ∈ l, FactOk P nm x) {O : Oracle} (henv : @Env P (factTab P nm l) O) {k n : Nat} {f : FuncId} {args us : List Value} {v u : Value} {σ' : Hp} (hbase : P.globals.size ≤ n)
    (hnm : ∀ b v, nm b = some v → P.globals.size ≤ b ∧ b < n) (hargs : DenL nm args us) (hone : us.all oneCell = true)
    (hv : ∀ (ι3 : Emb) v', (∀ b u, nm b = some u → ι3 b = .val u) → VRel ι3 v v' → v' = u)
    (h : (@go P (factTab P nm l) O k).call f args ⟨.nil, n⟩ = .ok (v, σ')) : Yields P f us.toArray u :=
  yields_tab nm l noParts hl (noParts_ok P nm) henv hbase hnm hv (fun _ hn => denl_rel hn hargs hone) h

/-- What yields makes a call known. -/
theorem Yields.good_of {P : Program} [T : Tab P] {f : FuncId} {args us : List Value} {v u : Value} (h : Yields P f us.toArray u) (hargs : ∀ ι : Emb, (∀ b v, @Tab.nm P T b = some v → ι b = .val v) → ∀ l, LRel (VRel ι) args l → l = us) (hv : ∀ ι : Emb, (∀ b v, @Tab.nm P T b = some v → ι b = .val v) → VRel ι v u) : Good P ⟨f, args, [], v⟩ := by
  intro F ho σ ι w args' _ hr _ ha
  have e := hargs ι hr.names _ ha
  have : args' = us.toArray := by apply Array.toList_inj.1; simpa using e
  subst this
  exact (h T ho hr).mono fun v' w' ⟨h1, h2, h3⟩ => ⟨ι, h2, h3, h1 ▸ hv ι hr.names⟩

theorem Yields.good {P : Program} [T : Tab P] {f : FuncId} {args us : List Value} {v u : Value} (h : Yields P f us.toArray u) (hargs : DenL (@Tab.nm P T) args us) (hv : ∀ ι : Emb, (∀ b v, @Tab.nm P T b = some v → ι b = .val v) → VRel ι v u) : Good P ⟨f, args, [], v⟩ := by
  intro F ho σ ι w args' _ hr _ ha
  have e := hargs.eq hr.names ha
  have : args' = us.toArray := by apply Array.toList_inj.1; simpa using e
  subst this
  exact (h T ho hr).mono fun v' w' ⟨h1, h2, h3⟩ => ⟨ι, h2, h3, h1 ▸ hv ι hr.names⟩

/-- The parts of a tuple. -/
theorem denl_tuple {nm : Nat → Option Value} {ι : Emb} (hn : ∀ b v, nm b = some v → ι b = .val v) {vs us : List Value} (h : DenL nm vs us) (h1 : us.all oneCell = true) : VRel ι (.tuple vs.toArray) (.tuple us.toArray) := by
  refine VRel.tuple_list ?_
  induction h with
  | nil => exact .nil
  | cons h _ ih =>
    simp only [List.all_cons, Bool.and_eq_true] at h1
    exact .cons (h.rel hn h1.1) (ih h1.2)

theorem denl_tuple_eq {nm : Nat → Option Value} {ι : Emb} (hn : ∀ b v, nm b = some v → ι b = .val v) {vs us : List Value} (h : DenL nm vs us) (hne : vs.toArray ≠ #[.tuple #[]]) {v' : Value} (k : VRel ι (.tuple vs.toArray) v') : v' = .tuple us.toArray := by
  generalize hq : Value.tuple vs.toArray = q at k
  cases k with
  | @tuple xs xs' hx h1 =>
    cases hq
    have := LRel.of_array hx h1
    have e := h.eq hn (by simpa using this)
    congr 1
    apply Array.toList_inj.1
    simpa using e
  | unk v => cases hq; exact absurd rfl hne
  | _ => cases hq

end Go.Cx
