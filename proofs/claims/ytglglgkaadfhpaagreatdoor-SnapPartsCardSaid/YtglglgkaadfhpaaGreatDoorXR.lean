/-
  CxR: how an abstract heap stands for a world ('Rel'), and what a step may do ('Step').
-/
import Derived.Test.YtglglgkaadfhpaaGreatDoorXE
set_option linter.all false
namespace Go.Cx

structure Slot where
  x : Nat
  grown : Option (Nat × Nat)

inductive St where
  | unborn
  | live (s : Slot)
  | dead
  | val (v : Value)

abbrev Emb := Nat → St

/-- It stands for a block. -/
def St.here : St → Prop
  | .live _ => True
  | .dead => True
  | _ => False

def ARel (ι : Emb) (a a' : Addr) : Prop :=
  match ι a.block with
  | .unborn => False
  | .live s => a' = ⟨s.x, a.off, a.spot⟩
  | .dead => True
  | .val _ => False

def BRel (ι : Emb) (b b' : Nat) : Prop :=
  match ι b with
  | .unborn => False
  | .live s => b' = s.x
  | .dead => True
  | .val _ => False

def SRel (ι : Emb) (b : Nat) (v : Value) : Prop := ι b = .val v ∧ oneCell v = true

def CRel (ι : Emb) (a : Addr) (c c' : Nat) : Prop :=
  match ι a.block with
  | .unborn => False
  | .live s => c' = c ∨ ∃ csz esz, s.grown = some (csz, esz) ∧ 0 < c ∧ c ≤ c' ∧ a.off + c' * esz = csz
  | .dead => True
  | .val _ => False

inductive FnRel (ι : Emb) : Fn → Fn → Prop where
  | same (f : Fn) (h : ∀ l, f ≠ .yield l) : FnRel ι f f
  | yield (l l' : Nat) (h : BRel ι l l') : FnRel ι (.yield l) (.yield l')

inductive VRel (ι : Emb) : Value → Value → Prop where
  | bool (b) : VRel ι (.bool b) (.bool b)
  | int (k n) : VRel ι (.int k n) (.int k n)
  | string (s) : VRel ι (.string s) (.string s)
  | pnil : VRel ι (.pointer none) (.pointer none)
  | ptr {a a'} (h : ARel ι a a') : VRel ι (.pointer (some a)) (.pointer (some a'))
  | slnil (l c) : VRel ι (.slice none l c) (.slice none l c)
  | sl {a a' l c c'} (h : ARel ι a a') (hc : CRel ι a c c') : VRel ι (.slice (some a) l c) (.slice (some a') l c')
  | mnil : VRel ι (.map none) (.map none)
  | map {r r'} (h : BRel ι r r') : VRel ι (.map (some r)) (.map (some r'))
  | func {f f' xs xs' ys ys'} (hf : FnRel ι f f') (hx : xs.size = xs'.size) (h1 : ∀ (i : Nat) x y, xs[i]? = some x → xs'[i]? = some y → VRel ι x y)
      (hy : ys.size = ys'.size) (h2 : ∀ (i : Nat) x y, ys[i]? = some x → ys'[i]? = some y → VRel ι x y) : VRel ι (.func f xs ys) (.func f' xs' ys')
  | fnil : VRel ι .nilFunc .nilFunc
  | iface (t) {v v'} (h : VRel ι v v') : VRel ι (.iface t v) (.iface t v')
  | inil : VRel ι .nilIface .nilIface
  | agg {xs xs'} (hx : xs.size = xs'.size) (h1 : ∀ (i : Nat) x y, xs[i]? = some x → xs'[i]? = some y → VRel ι x y) : VRel ι (.agg xs) (.agg xs')
  | tuple {xs xs'} (hx : xs.size = xs'.size) (h1 : ∀ (i : Nat) x y, xs[i]? = some x → xs'[i]? = some y → VRel ι x y) : VRel ι (.tuple xs) (.tuple xs')
  | unk (v) : VRel ι unk v
  | sym (b) {v} (h : SRel ι b v) : VRel ι (symv b) v

/-- Lists, place by place. -/
inductive LRel (R : Value → Value → Prop) : List Value → List Value → Prop where
  | nil : LRel R [] []
  | cons {x y xs ys} (h : R x y) (t : LRel R xs ys) : LRel R (x :: xs) (y :: ys)

theorem LRel.length {R : Value → Value → Prop} {xs ys : List Value} (h : LRel R xs ys) : xs.length = ys.length := by
  induction h with
  | nil => rfl
  | cons _ _ ih => simp [ih]

theorem LRel.get {R : Value → Value → Prop} {xs ys : List Value} (h : LRel R xs ys) : ∀ (i : Nat) x y, xs[i]? = some x → ys[i]? = some y → R x y := by
  induction h with
  | nil => intro i x y hx; simp at hx
  | cons h _ ih =>
    intro i x y hx hy
    cases i with
    | zero => simp at hx hy; subst hx hy; exact h
    | succ i => simp at hx hy; exact ih i x y hx hy

theorem LRel.of_get {R : Value → Value → Prop} : ∀ {xs ys : List Value}, xs.length = ys.length → (∀ (i : Nat) x y, xs[i]? = some x → ys[i]? = some y → R x y) → LRel R xs ys
  | [], [], _, _ => .nil
  | [], _ :: _, h, _ => by simp at h
  | _ :: _, [], h, _ => by simp at h
  | x :: xs, y :: ys, h, g => .cons (g 0 x y rfl rfl) (LRel.of_get (by simpa using h) fun i a b ha hb => g (i + 1) a b (by simpa using ha) (by simpa using hb))

theorem LRel.mono {R R' : Value → Value → Prop} {xs ys : List Value} (h : LRel R xs ys) (hr : ∀ x y, R x y → R' x y) : LRel R' xs ys := by
  induction h with
  | nil => exact .nil
  | cons h _ ih => exact .cons (hr _ _ h) ih

theorem LRel.append {R : Value → Value → Prop} {xs ys us vs : List Value} (h : LRel R xs ys) (k : LRel R us vs) : LRel R (xs ++ us) (ys ++ vs) := by
  induction h with
  | nil => exact k
  | cons h _ ih => exact .cons h ih

theorem LRel.take {R : Value → Value → Prop} {xs ys : List Value} (h : LRel R xs ys) (n : Nat) : LRel R (xs.take n) (ys.take n) := by
  induction h generalizing n with
  | nil => simp; exact .nil
  | cons h _ ih => cases n with
    | zero => simp; exact .nil
    | succ n => simp; exact .cons h (ih n)

theorem LRel.drop {R : Value → Value → Prop} {xs ys : List Value} (h : LRel R xs ys) (n : Nat) : LRel R (xs.drop n) (ys.drop n) := by
  induction h generalizing n with
  | nil => simp; exact .nil
  | cons h t ih => cases n with
    | zero => exact .cons h t
    | succ n => simp; exact ih n

theorem LRel.map_same {α : Type} {R : Value → Value → Prop} (f g : α → Value) (l : List α) (h : ∀ a ∈ l, R (f a) (g a)) : LRel R (l.map f) (l.map g) := by
  induction l with
  | nil => exact .nil
  | cons a l ih => exact .cons (h a (by simp)) (ih fun b hb => h b (by simp [hb]))

theorem VRel.agg_list {ι : Emb} {xs ys : List Value} (h : LRel (VRel ι) xs ys) : VRel ι (.agg xs.toArray) (.agg ys.toArray) :=
  .agg (by simpa using h.length) fun i x y hx hy => h.get i x y (by simpa using hx) (by simpa using hy)

theorem VRel.tuple_list {ι : Emb} {xs ys : List Value} (h : LRel (VRel ι) xs ys) : VRel ι (.tuple xs.toArray) (.tuple ys.toArray) :=
  .tuple (by simpa using h.length) fun i x y hx hy => h.get i x y (by simpa using hx) (by simpa using hy)

theorem LRel.of_array {R : Value → Value → Prop} {xs ys : Array Value} (hx : xs.size = ys.size) (h : ∀ (i : Nat) x y, xs[i]? = some x → ys[i]? = some y → R x y) : LRel R xs.toList ys.toList :=
  LRel.of_get (by simpa using hx) fun i x y ha hb => h i x y (by simpa using ha) (by simpa using hb)

/-! ### Later embeddings -/
def Le (ι ι' : Emb) : Prop := ∀ b, ι b = .unborn ∨ ι' b = ι b ∨ (ι' b = .dead ∧ ∃ s, ι b = .live s)

theorem Le.refl (ι : Emb) : Le ι ι := fun _ => .inr (.inl rfl)

theorem Le.trans {ι ι₁ ι₂ : Emb} (h : Le ι ι₁) (k : Le ι₁ ι₂) : Le ι ι₂ := by
  intro b
  rcases h b with h | h | ⟨h, s, hs⟩
  · exact .inl h
  · rcases k b with k | k | ⟨k, s, hs⟩
    · exact .inl (h ▸ k)
    · exact .inr (.inl (k.trans h))
    · exact .inr (.inr ⟨k, s, h ▸ hs⟩)
  · rcases k b with k | k | ⟨k, t, ht⟩
    · rw [h] at k; cases k
    · exact .inr (.inr ⟨k.trans h, s, hs⟩)
    · exact .inr (.inr ⟨k, s, hs⟩)

theorem ARel.mono {ι ι' : Emb} (h : Le ι ι') {a a' : Addr} (k : ARel ι a a') : ARel ι' a a' := by
  unfold ARel at *
  rcases h a.block with h | h | ⟨h, _⟩
  · rw [h] at k; exact k.elim
  · rw [h]; exact k
  · rw [h]; trivial

theorem BRel.mono {ι ι' : Emb} (h : Le ι ι') {a a' : Nat} (k : BRel ι a a') : BRel ι' a a' := by
  unfold BRel at *
  rcases h a with h | h | ⟨h, _⟩
  · rw [h] at k; exact k.elim
  · rw [h]; exact k
  · rw [h]; trivial

theorem CRel.mono {ι ι' : Emb} (h : Le ι ι') {a : Addr} {c c' : Nat} (k : CRel ι a c c') : CRel ι' a c c' := by
  unfold CRel at *
  rcases h a.block with h | h | ⟨h, _⟩
  · rw [h] at k; exact k.elim
  · rw [h]; exact k
  · rw [h]; trivial

theorem SRel.mono {ι ι' : Emb} (h : Le ι ι') {b : Nat} {v : Value} (k : SRel ι b v) : SRel ι' b v := by
  obtain ⟨k, hv⟩ := k
  rcases h b with h | h | ⟨_, s, h⟩
  · rw [h] at k; cases k
  · exact ⟨h.trans k, hv⟩
  · rw [h] at k; cases k

theorem FnRel.mono {ι ι' : Emb} (h : Le ι ι') {f f' : Fn} (k : FnRel ι f f') : FnRel ι' f f' := by
  cases k with
  | same f hf => exact .same f hf
  | yield l l' hl => exact .yield l l' (hl.mono h)

theorem VRel.mono {ι ι' : Emb} (h : Le ι ι') {v v' : Value} (k : VRel ι v v') : VRel ι' v v' := by
  induction k with
  | bool b => exact .bool b
  | int k n => exact .int k n
  | string s => exact .string s
  | pnil => exact .pnil
  | ptr ha => exact .ptr (ha.mono h)
  | slnil l c => exact .slnil l c
  | sl ha hc => exact .sl (ha.mono h) (hc.mono h)
  | mnil => exact .mnil
  | map hb => exact .map (hb.mono h)
  | func hf hx _ hy _ ih1 ih2 => exact .func (hf.mono h) hx (fun i x y a b => ih1 i x y a b) hy (fun i x y a b => ih2 i x y a b)
  | fnil => exact .fnil
  | iface t _ ih => exact .iface t ih
  | inil => exact .inil
  | agg hx _ ih => exact .agg hx (fun i x y a b => ih i x y a b)
  | tuple hx _ ih => exact .tuple hx (fun i x y a b => ih i x y a b)
  | unk v => exact .unk v
  | sym b hb => exact .sym b (hb.mono h)

/-! ### Bytes -/
def byteV (b : UInt8) : Value := .int .u8 b.toNat

/-- The bytes of a text or of a byte. -/
inductive IsBytes : Value → List UInt8 → Prop where
  | text (s : ByteArray) : IsBytes (.string s) s.data.toList
  | byte (b : UInt8) : IsBytes (byteV b) [b]

/-- Pieces stand for bytes. -/
inductive CDen (ι : Emb) : List Value → List UInt8 → Prop where
  | nil : CDen ι [] []
  | cons {v u : Value} {b : List UInt8} {l : List Value} {bs : List UInt8} (h : VRel ι v u) (hb : IsBytes u b) (hs : b.length ≤ 1048576) (t : CDen ι l bs) : CDen ι (v :: l) (b ++ bs)

theorem CDen.mono {ι ι' : Emb} (h : Le ι ι') {l : List Value} {bs : List UInt8} (k : CDen ι l bs) : CDen ι' l bs := by
  induction k with
  | nil => exact .nil
  | cons hv hb hs _ ih => exact .cons (hv.mono h) hb hs ih

theorem CDen.append {ι : Emb} {l m : List Value} {bs cs : List UInt8} (h : CDen ι l bs) (k : CDen ι m cs) : CDen ι (l ++ m) (bs ++ cs) := by
  induction h with
  | nil => exact k
  | cons hv hb hs _ ih => rw [List.cons_append, List.append_assoc]; exact .cons hv hb hs ih

theorem CDen.le {ι : Emb} {l : List Value} {bs : List UInt8} (h : CDen ι l bs) : bs.length ≤ l.length * 1048576 := by
  induction h with
  | nil => simp
  | cons _ _ hs _ ih => simp only [List.length_append, List.length_cons]; omega

/-! ### What bears no address is itself -/
theorem VRel.undef {ι : Emb} : VRel ι undef undef := .tuple rfl fun i x y hx => by simp at hx

theorem flat_refl (ι : Emb) : ∀ (n : Nat) (v : Value), flat n v = true → VRel ι v v := by
  intro n
  induction n with
  | zero =>
    intro v h
    cases v with
    | bool b => exact .bool b
    | int k n => exact .int k n
    | string s => exact .string s
    | pointer a => cases a <;> first | exact .pnil | simp [flat] at h
    | slice a l c => cases a <;> first | exact .slnil _ _ | simp [flat] at h
    | map r => cases r <;> first | exact .mnil | simp [flat] at h
    | nilFunc => exact .fnil
    | nilIface => exact .inil
    | _ => simp [flat] at h
  | succ n ih =>
    intro v h
    cases v with
    | bool b => exact .bool b
    | int k n => exact .int k n
    | string s => exact .string s
    | pointer a => cases a <;> first | exact .pnil | simp [flat] at h
    | slice a l c => cases a <;> first | exact .slnil _ _ | simp [flat] at h
    | map r => cases r <;> first | exact .mnil | simp [flat] at h
    | nilFunc => exact .fnil
    | nilIface => exact .inil
    | iface t v => exact .iface t (ih v (by simpa [flat] using h))
    | agg cs =>
      simp only [flat, List.all_eq_true] at h
      refine .agg rfl fun i x y hx hy => ?_
      rw [hx] at hy; cases hy
      exact ih x (h x (by simpa using Array.mem_of_getElem? hx))
    | tuple cs =>
      simp only [flat, Bool.and_eq_true, List.all_eq_true] at h
      refine .tuple rfl fun i x y hx hy => ?_
      rw [hx] at hy; cases hy
      exact ih x (h.2 x (by simpa using Array.mem_of_getElem? hx))
    | _ => simp [flat] at h

theorem flat_unk (n : Nat) : flat n unk = false := by
  cases n with
  | zero => rfl
  | succ n => cases n <;> simp [flat, unk]

theorem flat_sym (n b : Nat) : flat n (symv b) = false := by
  cases n <;> rfl

theorem flat_eq {ι : Emb} : ∀ (n : Nat) {v v' : Value}, flat n v = true → VRel ι v v' → v' = v := by
  intro n
  induction n with
  | zero =>
    intro v v' h k
    cases k <;> first | rfl | simp [flat] at h | (rw [flat_unk] at h; cases h) | (rw [flat_sym] at h; cases h)
  | succ n ih =>
    intro v v' h k
    cases k with
    | iface t hv => simp only [flat] at h; rw [ih h hv]
    | agg hx h1 =>
      simp only [flat, List.all_eq_true] at h
      congr 1
      refine Array.ext hx.symm fun i hi hj => ?_
      exact ih (h _ (by simp)) (h1 i _ _ (Array.getElem?_eq_getElem hj) (Array.getElem?_eq_getElem hi))
    | tuple hx h1 =>
      simp only [flat, Bool.and_eq_true, List.all_eq_true] at h
      congr 1
      refine Array.ext hx.symm fun i hi hj => ?_
      exact ih (h.2 _ (by simp)) (h1 i _ _ (Array.getElem?_eq_getElem hj) (Array.getElem?_eq_getElem hi))
    | unk v => rw [flat_unk] at h; cases h
    | sym b hb => rw [flat_sym] at h; cases h
    | _ => first | rfl | simp [flat] at h

end Go.Cx

/-
  CxH: the trie; 'Rel' and 'Step'; new blocks, blocks written anew, blocks given up.
-/

namespace Go.Cx

theorem Tr.get_set {α : Type} (x : Option α) : ∀ (f : Nat) (t : Tr α) (n m : Nat), n < f → (Tr.set f t n x).get m = if m = n then x else t.get m := by
  intro f
  induction f with
  | zero => intro t n m h; omega
  | succ f ih =>
    intro t n m hn
    cases n with
    | zero =>
      cases t <;> cases m <;> simp [Tr.set, Tr.get]
      split <;> rfl
    | succ n =>
      have hf : n / 2 < f := by omega
      cases t with
      | nil =>
        simp only [Tr.set]
        split
        · rename_i hp
          cases m with
          | zero => simp [Tr.get]
          | succ m =>
            simp only [Tr.get]
            split
            · rename_i hq; rw [ih _ _ _ hf]
              by_cases h : m = n
              · subst h; simp
              · have : m / 2 ≠ n / 2 := by omega
                simp [h, this, Tr.get]
            · rename_i hq
              have : m ≠ n := fun h => by subst h; simp_all
              simp [this]
        · rename_i hp
          cases m with
          | zero => simp [Tr.get]
          | succ m =>
            simp only [Tr.get]
            split
            · rename_i hq
              have : m ≠ n := fun h => by subst h; exact absurd hq (by simpa using hp)
              simp [this]
            · rename_i hq; rw [ih _ _ _ hf]
              have h0 : n % 2 ≠ 0 := by simpa using hp
              have h1 : m % 2 ≠ 0 := by simpa using hq
              by_cases h : m = n
              · subst h; simp
              · have : m / 2 ≠ n / 2 := by omega
                simp [h, this, Tr.get]
      | node v l r =>
        simp only [Tr.set]
        split
        · rename_i hp
          cases m with
          | zero => simp [Tr.get]
          | succ m =>
            simp only [Tr.get]
            split
            · rename_i hq; rw [ih _ _ _ hf]
              by_cases h : m = n
              · subst h; simp
              · have : m / 2 ≠ n / 2 := by omega
                simp [h, this]
            · rename_i hq
              have : m ≠ n := fun h => by subst h; simp_all
              simp [this]
        · rename_i hp
          cases m with
          | zero => simp [Tr.get]
          | succ m =>
            simp only [Tr.get]
            split
            · rename_i hq
              have : m ≠ n := fun h => by subst h; exact absurd hq (by simpa using hp)
              simp [this]
            · rename_i hq; rw [ih _ _ _ hf]
              have h0 : n % 2 ≠ 0 := by simpa using hp
              have h1 : m % 2 ≠ 0 := by simpa using hq
              by_cases h : m = n
              · subst h; simp
              · have : m / 2 ≠ n / 2 := by omega
                simp [h, this]

theorem Tr.get_fill {α : Type} : ∀ (l : List α) (i : Nat) (t : Tr α) (m : Nat), (Tr.fill i l t).get m = if i ≤ m then (match l[m - i]? with | some v => some v | none => t.get m) else t.get m := by
  intro l
  induction l with
  | nil => intro i t m; simp [Tr.fill]
  | cons v l ih =>
    intro i t m
    simp only [Tr.fill]
    rw [ih, Tr.get_set _ _ _ _ _ (Nat.lt_succ_self i)]
    by_cases h1 : i + 1 ≤ m
    · have h2 : i ≤ m := by omega
      have h3 : m ≠ i := by omega
      obtain ⟨k, rfl⟩ : ∃ k, m = i + 1 + k := ⟨m - (i + 1), by omega⟩
      have e1 : i + 1 + k - (i + 1) = k := by omega
      have e2 : i + 1 + k - i = k + 1 := by omega
      simp [h1, h2, h3, e1, e2]
    · by_cases h2 : m = i
      · subst h2; simp [h1]
      · have h3 : ¬ i ≤ m := by omega
        simp [h1, h2, h3]

theorem Tr.get_nil {α : Type} (m : Nat) : (Tr.nil : Tr α).get m = none := by cases m <;> rfl

theorem Hp.get_put (σ : Hp) (b c : Nat) (x : Option Ob) : (σ.put b x).get c = if c = b then x else σ.get c := Tr.get_set x _ _ _ _ (Nat.lt_succ_self b)
theorem Hp.get_alloc (σ : Hp) (c : Nat) (o : Ob) : (σ.alloc o).get c = if c = σ.next then some o else σ.get c := Tr.get_set _ _ _ _ _ (Nat.lt_succ_self _)
@[simp] theorem Hp.next_put (σ : Hp) (b : Nat) (x : Option Ob) : (σ.put b x).next = σ.next := rfl
@[simp] theorem Hp.next_alloc (σ : Hp) (o : Ob) : (σ.alloc o).next = σ.next + 1 := rfl
@[simp] theorem Hp.next_kill (σ : Hp) (b : Nat) : (σ.kill b).next = σ.next := rfl

structure LoopRel (ι : Emb) (r r' : Loop) : Prop where
  state : r'.state = r.state
  pending : r'.pending = r.pending
  params : r'.params = r.params
  assign : r'.assign = r.assign
  body : r'.body = r.body
  size : r.tmps.size = r'.tmps.size
  tmps : ∀ (i : Nat) x y, r.tmps[i]? = some x → r'.tmps[i]? = some y → VRel ι x y
  defers : BRel ι r.defers r'.defers

def Grows (P : Program) (s : Slot) (n : Nat) (e : TypeId) (opn : Bool) (size : Nat) : Prop :=
  (s.grown = none ∧ opn = false ∧ size = n) ∨ ∃ csz esz i, s.grown = some (csz, esz) ∧ opn = true ∧ size = csz ∧ n ≤ csz ∧ P.info? e = some i ∧ i.size = esz ∧ 0 < esz

inductive ORel (P : Program) (ι : Emb) (s : Slot) : Ob → Obj → Prop where
  | cells {c n e lo hi opn} {c' : Array Value} (hg : Grows P s n e opn c'.size) (h : ∀ i, i < n → ∀ v, c.get i = some v → ∃ v', c'[i]? = some v' ∧ VRel ι v v') :
      ORel P ι s (.cells c n e lo hi opn) (.cells c' e (lo, hi))
  | map {es es' : Array MapEntry} {clock} (hs : es.size = es'.size)
      (h : ∀ (i : Nat) x y, es[i]? = some x → es'[i]? = some y → VRel ι x.key y.key ∧ VRel ι x.val y.val ∧ y.born = x.born) : ORel P ι s (.map es clock) (.map es' clock)
  | stringIter (b pos) : ORel P ι s (.stringIter b pos) (.stringIter b pos)
  | nilIter (a b c) : ORel P ι s (.mapIter none a b c) (.mapIter none a b c)
  | mapIter {m m'} (a b c) (h : BRel ι m m') : ORel P ι s (.mapIter (some m) a b c) (.mapIter (some m') a b c)
  | loop {r r'} (h : LoopRel ι r r') : ORel P ι s (.loop r) (.loop r')
  | opened : ORel P ι s (.deferred true) (.deferred (some []))
  | shut : ORel P ι s (.deferred false) (.deferred none)
  | chunks {n content} {c' : Array Value} {e cap} {bs : List UInt8} {i : TypeInfo} (hd : CDen ι content bs) (hn : ι n = .val (.slice (some ⟨s.x, 0, none⟩) bs.length cap)) (hl : ι (n + 1) = .val (.int .i64 (Int.ofNat bs.length)))
      (h0 : 0 < bs.length) (hcap : bs.length ≤ cap) (hs : cap ≤ c'.size) (hi : P.info? e = some i) (hsz : i.size = 1) (hby : i.bytes = 1) (hc : ∀ (j : Nat) b, bs[j]? = some b → c'[j]? = some (byteV b)) : ORel P ι s (.chunks n e content) (.cells c' e (0, 0))

theorem LoopRel.mono {ι ι' : Emb} (h : Le ι ι') {r r' : Loop} (k : LoopRel ι r r') : LoopRel ι' r r' :=
  ⟨k.state, k.pending, k.params, k.assign, k.body, k.size, fun i x y a b => (k.tmps i x y a b).mono h, k.defers.mono h⟩

theorem Le.val {ι ι' : Emb} (h : Le ι ι') {b : Nat} {v : Value} (k : ι b = .val v) : ι' b = .val v := by
  rcases h b with h | h | ⟨_, s, h⟩
  · rw [h] at k; cases k
  · rw [h, k]
  · rw [h] at k; cases k

theorem ORel.mono {P : Program} {ι ι' : Emb} (h : Le ι ι') {s : Slot} {o : Ob} {o' : Obj} (k : ORel P ι s o o') : ORel P ι' s o o' := by
  cases k with
  | cells hg hc => exact .cells hg fun i hi v hv => let ⟨v', a, b⟩ := hc i hi v hv; ⟨v', a, b.mono h⟩
  | map hs hm => exact .map hs fun i x y a b => let ⟨p, q, r⟩ := hm i x y a b; ⟨p.mono h, q.mono h, r⟩
  | stringIter b pos => exact .stringIter b pos
  | nilIter a b c => exact .nilIter a b c
  | mapIter a b c hb => exact .mapIter a b c (hb.mono h)
  | loop hl => exact .loop (hl.mono h)
  | opened => exact .opened
  | shut => exact .shut
  | chunks hd hn hl h0 hcap hs hi hsz hby hc => exact .chunks (hd.mono h) (h.val hn) (h.val hl) h0 hcap hs hi hsz hby hc

structure Rel (P : Program) [Tab P] (ι : Emb) (σ : Hp) (w : World) : Prop where
  live : ∀ b o, σ.get b = some o → ∃ s, ι b = .live s ∧ ∃ o', w.heap[s.x]? = some o' ∧ ORel P ι s o o'
  inj : ∀ b c s t, ι b = .live s → ι c = .live t → s.x = t.x → b = c
  bound : ∀ b s, ι b = .live s → s.x < w.heap.size
  glob : ∀ b s, b < P.globals.size → ι b = .live s → s.x = b
  gborn : ∀ b, b < P.globals.size → (ι b).here
  base : P.globals.size ≤ σ.next
  ids : ∀ b o, σ.get b = some o → b < σ.next
  names : ∀ b v, Tab.nm P b = some v → ι b = .val v

def Hp.is (σ : Hp) (b : Nat) : Prop := ∃ o, σ.get b = some o

/-- What a step may do. -/
structure Step (ι : Emb) (σ : Hp) (w : World) (ι' : Emb) (σ' : Hp) (w' : World) : Prop where
  next : σ.next ≤ σ'.next
  size : w.heap.size ≤ w'.heap.size
  old : ∀ b, (b < σ.next ∨ σ'.next ≤ b) → ι' b = ι b ∨ (ι' b = .dead ∧ σ.is b ∧ ∃ s, ι b = .live s)
  frame : ∀ x, x < w.heap.size → (∀ b s, σ.is b → ι b = .live s → s.x ≠ x) → w'.heap[x]? = w.heap[x]?
  born : ∀ b s, σ.next ≤ b → b < σ'.next → ι' b = .live s → w.heap.size ≤ s.x ∨ ∃ c t, σ.is c ∧ ι c = .live t ∧ t.x = s.x
  stay : ∀ b, b < σ.next → σ'.is b → σ.is b
  tape : w'.tape = w.tape
  os : w'.os = w.os
  output : w'.output = w.output

def Fresh (ι : Emb) (n m : Nat) : Prop := ∀ b, n ≤ b → b < m → ι b = .unborn

theorem Step.refl (ι : Emb) (σ : Hp) (w : World) : Step ι σ w ι σ w :=
  ⟨Nat.le_refl _, Nat.le_refl _, fun _ _ => .inl rfl, fun _ _ _ => rfl, fun _ _ h1 h2 _ => absurd h1 (by omega), fun _ _ h => h, rfl, rfl, rfl⟩

theorem Step.le {ι ι' : Emb} {σ σ' : Hp} {w w' : World} (h : Step ι σ w ι' σ' w') (hf : Fresh ι σ.next σ'.next) : Le ι ι' := by
  intro b
  by_cases hb : b < σ.next ∨ σ'.next ≤ b
  · rcases h.old b hb with h | h
    · exact .inr (.inl h)
    · exact .inr (.inr ⟨h.1, h.2.2⟩)
  · exact .inl (hf b (by omega) (by omega))

theorem Fresh.sub {ι : Emb} {n m n' m' : Nat} (h : Fresh ι n m) (h1 : n ≤ n') (h2 : m' ≤ m) : Fresh ι n' m' := fun b hb hc => h b (by omega) (by omega)

theorem Step.fresh {P : Program} [Tab P] {ι ι' : Emb} {σ σ' : Hp} {w w' : World} (h : Step ι σ w ι' σ' w') (hr : Rel P ι σ w) {m : Nat} (hf : Fresh ι σ.next m) : Fresh ι' σ'.next m := by
  intro b hb hc
  rcases h.old b (.inr hb) with k | ⟨_, ⟨o, ho⟩, _⟩
  · rw [k]; exact hf b (Nat.le_trans h.next hb) hc
  · have := hr.ids b o ho; have := h.next; omega

theorem Step.trans {P : Program} [Tab P] {ι ι₁ ι₂ : Emb} {σ σ₁ σ₂ : Hp} {w w₁ w₂ : World} (hr₁ : Rel P ι₁ σ₁ w₁) (h : Step ι σ w ι₁ σ₁ w₁) (k : Step ι₁ σ₁ w₁ ι₂ σ₂ w₂) :
    Step ι σ w ι₂ σ₂ w₂ := by
  have back : ∀ b, (b < σ.next ∨ σ₂.next ≤ b) → σ₁.is b → σ.is b := by
    intro b hb hi
    obtain ⟨o, ho⟩ := hi
    have := hr₁.ids b o ho
    have := k.next
    exact h.stay b (by omega) ⟨o, ho⟩
  refine ⟨Nat.le_trans h.next k.next, Nat.le_trans h.size k.size, ?_, ?_, ?_, ?_, k.tape.trans h.tape, k.os.trans h.os, k.output.trans h.output⟩
  · intro b hb
    have hb1 : b < σ.next ∨ σ₁.next ≤ b := by have := k.next; omega
    have hb2 : b < σ₁.next ∨ σ₂.next ≤ b := by have := h.next; omega
    rcases k.old b hb2 with k1 | ⟨k1, k2, s, k3⟩
    · rcases h.old b hb1 with h1 | ⟨h1, h2⟩
      · exact .inl (k1.trans h1)
      · exact .inr ⟨k1.trans h1, h2⟩
    · rcases h.old b hb1 with h1 | ⟨h1, h2, h3⟩
      · exact .inr ⟨k1, back b hb k2, s, h1 ▸ k3⟩
      · rw [h1] at k3; cases k3
  · intro x hx hn
    refine (k.frame x (Nat.lt_of_lt_of_le hx h.size) ?_).trans (h.frame x hx hn)
    intro b s hb hs hsx
    obtain ⟨o, ho⟩ := hb
    have hid := hr₁.ids b o ho
    by_cases hlt : b < σ.next
    · have hb0 := h.stay b hlt ⟨o, ho⟩
      rcases h.old b (.inl hlt) with h1 | ⟨h1, _⟩
      · exact hn b s hb0 (h1 ▸ hs) hsx
      · rw [h1] at hs; cases hs
    · rcases h.born b s (by omega) hid hs with h1 | ⟨c, t, hc, ht, htx⟩
      · omega
      · exact hn c t hc ht (htx.trans hsx)
  · intro b s h1 h2 hs
    by_cases hlt : b < σ₁.next
    · rcases k.old b (.inl hlt) with k1 | ⟨k1, _⟩
      · exact h.born b s h1 hlt (k1 ▸ hs)
      · rw [k1] at hs; cases hs
    · rcases k.born b s (by omega) h2 hs with k1 | ⟨c, t, ⟨o, ho⟩, ht, htx⟩
      · exact .inl (Nat.le_trans h.size k1)
      · by_cases hc : c < σ.next
        · rcases h.old c (.inl hc) with h3 | ⟨h3, _⟩
          · exact .inr ⟨c, t, h.stay c hc ⟨o, ho⟩, h3 ▸ ht, htx⟩
          · rw [h3] at ht; cases ht
        · rcases h.born c t (by omega) (hr₁.ids c o ho) ht with h3 | ⟨d, u, hd, hu, hux⟩
          · exact .inl (htx ▸ h3)
          · exact .inr ⟨d, u, hd, hu, hux.trans htx⟩
  · intro b hb hi
    exact h.stay b hb (k.stay b (Nat.lt_of_lt_of_le hb h.next) hi)

def Emb.set (ι : Emb) (b : Nat) (s : St) : Emb := fun c => if c = b then s else ι c

theorem Le.born {ι : Emb} {b : Nat} (s : St) (h : ι b = .unborn) : Le ι (ι.set b s) := by
  intro c
  by_cases hc : c = b
  · subst hc; exact .inl h
  · exact .inr (.inl (by simp [Emb.set, hc]))

theorem Le.kill {ι : Emb} {b : Nat} {s : Slot} (hs : ι b = .live s) : Le ι (ι.set b .dead) := by
  intro c
  by_cases hc : c = b
  · subst hc; exact .inr (.inr ⟨by simp [Emb.set], s, hs⟩)
  · exact .inr (.inl (by simp [Emb.set, hc]))

/-- A new block. -/
theorem Rel.alloc {P : Program} [Tab P] {ι : Emb} {σ : Hp} {w : World} (h : Rel P ι σ w) (hn : ι σ.next = .unborn) {g : Option (Nat × Nat)} {o : Ob} {o' : Obj} (ho : ORel P ι ⟨w.heap.size, g⟩ o o') :
    Rel P (ι.set σ.next (.live ⟨w.heap.size, g⟩)) (σ.alloc o) { w with heap := w.heap.push o' } ∧
    Step ι σ w (ι.set σ.next (.live ⟨w.heap.size, g⟩)) (σ.alloc o) { w with heap := w.heap.push o' } := by
  have hle : Le ι (ι.set σ.next (.live ⟨w.heap.size, g⟩)) := Le.born _ hn
  have hnew : ∀ b s, ι b = .live s → b ≠ σ.next := fun b s hb e => by subst e; rw [hn] at hb; cases hb
  refine ⟨⟨?_, ?_, ?_, ?_, ?_, ?_, ?_, ?_⟩, ⟨by simp, by simp, ?_, ?_, ?_, ?_, rfl, rfl, rfl⟩⟩
  · intro b q hq
    rw [Hp.get_alloc] at hq
    by_cases hb : b = σ.next
    · subst hb
      simp at hq; subst hq
      exact ⟨⟨w.heap.size, g⟩, by simp [Emb.set], o', by simp, ho.mono hle⟩
    · simp [hb] at hq
      obtain ⟨s, hs, q', hq', hr⟩ := h.live b q hq
      refine ⟨s, by simp [Emb.set, hb, hs], q', ?_, hr.mono hle⟩
      rw [Array.getElem?_push]
      have := h.bound b s hs
      simp [Nat.ne_of_lt this, hq']
  · intro b c s t hs ht hx
    by_cases hb : b = σ.next <;> by_cases hc : c = σ.next <;> simp [Emb.set, hb, hc] at hs ht
    · exact hb.trans hc.symm
    · subst hs; have := h.bound c t ht; simp at hx; omega
    · subst ht; have := h.bound b s hs; simp at hx; omega
    · exact h.inj b c s t hs ht hx
  · intro b s hs
    by_cases hb : b = σ.next <;> simp [Emb.set, hb] at hs
    · subst hs; simp
    · have := h.bound b s hs; simp; omega
  · intro b s hb hs
    have := h.base
    have hb' : b ≠ σ.next := by omega
    simp [Emb.set, hb'] at hs
    exact h.glob b s hb hs
  · intro b hb
    have := h.base
    have hb' : b ≠ σ.next := by omega
    simp [Emb.set, hb']
    exact h.gborn b hb
  · have := h.base; simp; omega
  · intro b q hq
    rw [Hp.get_alloc] at hq
    by_cases hb : b = σ.next
    · subst hb; simp
    · simp [hb] at hq; have := h.ids b q hq; simp; omega
  · intro b v hv
    have hq := h.names b v hv
    have hb' : b ≠ σ.next := fun e => by subst e; rw [hn] at hq; cases hq
    simp [Emb.set, hb', hq]
  · intro b hb
    have hb' : b ≠ σ.next := by simp at hb; omega
    exact .inl (by simp [Emb.set, hb'])
  · intro x hx _
    simp [Array.getElem?_push, Nat.ne_of_lt hx]
  · intro b s h1 h2 hs
    have hb : b = σ.next := by simp at h2; omega
    simp [Emb.set, hb] at hs
    subst hs; exact .inl (Nat.le_refl _)
  · intro b hb ⟨q, hq⟩
    rw [Hp.get_alloc] at hq
    have hb' : b ≠ σ.next := by omega
    simp [hb'] at hq
    exact ⟨q, hq⟩

/-- A block that lies there has another content. -/
theorem Rel.put {P : Program} [Tab P] {ι : Emb} {σ : Hp} {w : World} (h : Rel P ι σ w) {b : Nat} {o o₁ : Ob} {s : Slot} {o₁' : Obj} (hb : σ.get b = some o) (hs : ι b = .live s) (ho : ORel P ι s o₁ o₁') :
    Rel P ι (σ.put b (some o₁)) { w with heap := w.heap.setIfInBounds s.x o₁' } ∧
    Step ι σ w ι (σ.put b (some o₁)) { w with heap := w.heap.setIfInBounds s.x o₁' } := by
  refine ⟨⟨?_, h.inj, ?_, h.glob, h.gborn, h.base, ?_, h.names⟩, ⟨Nat.le_refl _, by simp, fun _ _ => .inl rfl, ?_, ?_, ?_, rfl, rfl, rfl⟩⟩
  · intro c q hq
    rw [Hp.get_put] at hq
    by_cases hc : c = b
    · subst hc; simp at hq; subst hq
      refine ⟨s, hs, o₁', ?_, ho⟩
      simp [h.bound c s hs]
    · simp [hc] at hq
      obtain ⟨t, ht, q', hq', hr⟩ := h.live c q hq
      refine ⟨t, ht, q', ?_, hr⟩
      have hne : s.x ≠ t.x := fun e => hc (h.inj c b t s ht hs e.symm)
      simp [Array.getElem?_setIfInBounds_ne hne, hq']
  · intro c t ht; have := h.bound c t ht; simpa using this
  · intro c q hq
    rw [Hp.get_put] at hq
    by_cases hc : c = b
    · subst hc; exact h.ids c o hb
    · simp [hc] at hq; exact h.ids c q hq
  · intro x hx hn
    have hne : s.x ≠ x := hn b s ⟨o, hb⟩ hs
    simp [Array.getElem?_setIfInBounds_ne hne]
  · intro c t h1 h2; simp at h2; omega
  · intro c hc ⟨q, hq⟩
    rw [Hp.get_put] at hq
    by_cases hcb : c = b
    · subst hcb; exact ⟨o, hb⟩
    · simp [hcb] at hq; exact ⟨q, hq⟩

/-- A block is given up. -/
theorem Rel.kill {P : Program} [Tab P] {ι : Emb} {σ : Hp} {w : World} (h : Rel P ι σ w) {b : Nat} {o : Ob} (hb : σ.get b = some o) :
    Rel P (ι.set b .dead) (σ.kill b) w ∧ Step ι σ w (ι.set b .dead) (σ.kill b) w := by
  obtain ⟨s₀, hs₀, _⟩ := h.live b o hb
  refine ⟨⟨?_, ?_, ?_, ?_, ?_, h.base, ?_, ?_⟩, ⟨Nat.le_refl _, Nat.le_refl _, ?_, fun _ _ _ => rfl, ?_, ?_, rfl, rfl, rfl⟩⟩
  · intro c q hq
    rw [Hp.kill, Hp.get_put] at hq
    by_cases hc : c = b
    · simp [hc] at hq
    · simp [hc] at hq
      obtain ⟨t, ht, q', hq', hr⟩ := h.live c q hq
      exact ⟨t, by simp [Emb.set, hc, ht], q', hq', hr.mono (Le.kill hs₀)⟩
  · intro c d s t hs ht hx
    by_cases hc : c = b <;> by_cases hd : d = b <;> simp [Emb.set, hc, hd] at hs ht
    exact h.inj c d s t hs ht hx
  · intro c s hs
    by_cases hc : c = b <;> simp [Emb.set, hc] at hs
    exact h.bound c s hs
  · intro c s hg hs
    by_cases hc : c = b <;> simp [Emb.set, hc] at hs
    exact h.glob c s hg hs
  · intro c hg
    by_cases hc : c = b <;> simp [Emb.set, hc, St.here]
    exact h.gborn c hg
  · intro c q hq
    rw [Hp.kill, Hp.get_put] at hq
    by_cases hc : c = b <;> simp [hc] at hq
    exact h.ids c q hq
  · intro c v hv
    have hq := h.names c v hv
    have hc : c ≠ b := fun e => by subst e; rw [hs₀] at hq; cases hq
    simp [Emb.set, hc, hq]
  · intro c _
    by_cases hc : c = b
    · subst hc; exact .inr ⟨by simp [Emb.set], ⟨o, hb⟩, s₀, hs₀⟩
    · exact .inl (by simp [Emb.set, hc])
  · intro c t h1 h2; simp at h2; omega
  · intro c hc ⟨q, hq⟩
    rw [Hp.kill, Hp.get_put] at hq
    by_cases hcb : c = b <;> simp [hcb] at hq
    exact ⟨q, hq⟩

end Go.Cx
