/-
  CxJ: blocks held beside a heap; the way through a region.
-/
import Derived.Test.YtglglgkaadfhpaaGreatDoorXG
import Derived.Test.YtglglgkaadfhpaaGreatDoorXE
set_option linter.all false
namespace Go.Cx
variable {P : Program} [Tab P] [TabOk P]

@[simp] theorem adopt_next (base m low : Nat) (l : List (Nat × Ob)) (σ : Hp) : (adopt base m low l σ).next = σ.next := by
  induction l with
  | nil => rfl
  | cons x l ih =>
    obtain ⟨k, ob⟩ := x
    unfold adopt
    split
    · rw [Hp.next_put]; exact ih
    · exact ih

theorem adopt_get {base m low : Nat} {σ : Hp} {b : Nat} : ∀ {l : List (Nat × Ob)} {ob : Ob}, (adopt base m low l σ).get b = some ob →
    (∃ k, (k, ob) ∈ l ∧ b = base + k ∧ m.testBit k = true ∧ low.testBit k = false) ∨ σ.get b = some ob := by
  intro l
  induction l with
  | nil => intro ob h; exact .inr h
  | cons x l ih =>
    intro ob h
    obtain ⟨k, ob1⟩ := x
    unfold adopt at h
    split at h
    · rename_i hb
      simp only [Bool.and_eq_true, Bool.not_eq_true'] at hb
      rw [Hp.get_put] at h
      split at h
      · rename_i hk; cases h; exact .inl ⟨k, by simp, hk, hb.1, hb.2⟩
      · rcases ih h with ⟨j, h1, h2⟩ | h
        · exact .inl ⟨j, List.mem_cons_of_mem _ h1, h2⟩
        · exact .inr h
    · rcases ih h with ⟨j, h1, h2⟩ | h
      · exact .inl ⟨j, List.mem_cons_of_mem _ h1, h2⟩
      · exact .inr h

theorem adopt_other {base m low : Nat} {σ : Hp} {b : Nat} : ∀ {l : List (Nat × Ob)}, (∀ k ob, (k, ob) ∈ l → low.testBit k = false → b ≠ base + k) → (adopt base m low l σ).get b = σ.get b := by
  intro l
  induction l with
  | nil => intro h; rfl
  | cons x l ih =>
    intro h
    obtain ⟨k, ob⟩ := x
    have i := ih fun k' ob' h1 h2 => h k' ob' (List.mem_cons_of_mem _ h1) h2
    unfold adopt
    split
    · rename_i hb
      simp only [Bool.and_eq_true, Bool.not_eq_true'] at hb
      rw [Hp.get_put, if_neg (h k ob (by simp) hb.2)]
      exact i
    · exact i

/-- A block that lies in the world, in some heap or in none. -/
def Holds (P : Program) (ι : Emb) (w : World) (b : Nat) (ob : Ob) : Prop := ∃ s, ι b = .live s ∧ ∃ o', w.heap[s.x]? = some o' ∧ ORel P ι s ob o'

theorem Rel.sub {ι : Emb} {σ σ' : Hp} {w : World} (hr : Rel P ι σ w) (hb : P.globals.size ≤ σ'.next) (hi : ∀ b o, σ'.get b = some o → b < σ'.next) (hh : ∀ b o, σ'.get b = some o → Holds P ι w b o) : Rel P ι σ' w :=
  ⟨hh, hr.inj, hr.bound, hr.glob, hr.gborn, hb, hi, hr.names⟩

theorem Rel.void {ι : Emb} {σ : Hp} {w : World} (hr : Rel P ι σ w) {n : Nat} (hb : P.globals.size ≤ n) : Rel P ι (void n) w :=
  hr.sub hb (fun b o h => by simp [Cx.void, Hp.get, Tr.get_nil] at h) (fun b o h => by simp [Cx.void, Hp.get, Tr.get_nil] at h)

@[simp] theorem void_get (n b : Nat) : (void n).get b = none := by simp [void, Hp.get, Tr.get_nil]
@[simp] theorem void_next (n : Nat) : (void n).next = n := rfl
theorem void_is {n b : Nat} (h : (void n).is b) : False := by obtain ⟨o, h⟩ := h; simp at h

/-- What is held stays held. -/
theorem Holds.keep {ι ι' : Emb} {V V' : Hp} {w w' : World} (hV : Rel P ι V w) (hV' : Rel P ι' V' w') (hs : Step ι V w ι' V' w') (hf : Fresh ι V.next V'.next) {b : Nat} {ob : Ob} (h : Holds P ι w b ob)
    (hb : V.get b = none ∨ V'.get b = some ob) : Holds P ι' w' b ob := by
  rcases hb with hb | hb
  · obtain ⟨s, h1, o', h2, h3⟩ := h
    have hno : ¬ V.is b := fun ⟨o, ho⟩ => by rw [hb] at ho; cases ho
    have hout : b < V.next ∨ V'.next ≤ b := by
      by_cases hc : b < V.next ∨ V'.next ≤ b
      · exact hc
      · have := hf b (by omega) (by omega)
        rw [this] at h1; cases h1
    rcases hs.old b hout with k | ⟨_, k, _⟩
    · refine ⟨s, by rw [k]; exact h1, o', ?_, h3.mono (hs.le hf)⟩
      rw [hs.frame s.x (hV.bound b s h1) fun c t hc ht hx => ?_]
      · exact h2
      · have := hV.inj c b t s ht h1 hx
        subst this
        exact hno hc
    · exact absurd k hno
  · exact hV'.live b ob hb

/-- A step of a part, after a step. -/
theorem Step.mid {ι₀ ι ι' : Emb} {σ₀ H V V' H' : Hp} {w₀ w w' : World} (h : Step ι₀ σ₀ w₀ ι H w) (k : Step ι V w ι' V' w') (hV : Rel P ι V w)
    (a1 : σ₀.next ≤ V.next) (a2 : V.next ≤ H.next) (a3 : V'.next ≤ H'.next) (a4 : H.next ≤ H'.next)
    (a5 : ∀ b, b < σ₀.next → V.is b → σ₀.is b) (a6 : ∀ b, b < σ₀.next → H'.is b → σ₀.is b) (a7 : ∀ b, H.next ≤ b → b < H'.next → V.next ≤ b ∧ b < V'.next) :
    Step ι₀ σ₀ w₀ ι' H' w' := by
  have back : ∀ c t, V.is c → ι c = .live t → w₀.heap.size ≤ t.x ∨ ∃ d u, σ₀.is d ∧ ι₀ d = .live u ∧ u.x = t.x := by
    intro c t ⟨o, ho⟩ ht
    have hid := hV.ids c o ho
    by_cases hc : c < σ₀.next
    · rcases h.old c (.inl hc) with h3 | ⟨h3, _⟩
      · exact .inr ⟨c, t, a5 c hc ⟨o, ho⟩, h3 ▸ ht, rfl⟩
      · rw [h3] at ht; cases ht
    · exact h.born c t (by omega) (by omega) ht
  refine ⟨Nat.le_trans h.next a4, Nat.le_trans h.size k.size, ?_, ?_, ?_, a6, k.tape.trans h.tape, k.os.trans h.os, k.output.trans h.output⟩
  · intro b hb
    rcases k.old b (by omega) with k1 | ⟨k1, k2, s, k3⟩
    · rcases h.old b (by omega) with h1 | ⟨h1, h2⟩
      · exact .inl (k1.trans h1)
      · exact .inr ⟨k1.trans h1, h2⟩
    · rcases hb with hb | hb
      · rcases h.old b (.inl hb) with h1 | ⟨h1, _⟩
        · exact .inr ⟨k1, a5 b hb k2, s, h1 ▸ k3⟩
        · rw [h1] at k3; cases k3
      · obtain ⟨o, ho⟩ := k2
        have := hV.ids b o ho; omega
  · intro x hx hn
    refine (k.frame x (Nat.lt_of_lt_of_le hx h.size) ?_).trans (h.frame x hx hn)
    intro b s hb hs hsx
    rcases back b s hb hs with h1 | ⟨d, u, h1, h2, h3⟩
    · omega
    · exact hn d u h1 h2 (h3.trans hsx)
  · intro b s h1 h2 hs
    by_cases hin : V.next ≤ b ∧ b < V'.next
    · rcases k.born b s hin.1 hin.2 hs with k1 | ⟨c, t, hc, ht, htx⟩
      · exact .inl (Nat.le_trans h.size k1)
      · rcases back c t hc ht with h3 | ⟨d, u, hd, hu, hux⟩
        · exact .inl (htx ▸ h3)
        · exact .inr ⟨d, u, hd, hu, hux.trans htx⟩
    · rcases k.old b (by omega) with k1 | ⟨k1, _⟩
      · by_cases hlt : b < H.next
        · exact h.born b s h1 hlt (k1 ▸ hs)
        · exact absurd (a7 b (by omega) h2) hin
      · rw [k1] at hs; cases hs

/-! ### The way -/
section way
variable {R : Rec} {ops : List Oper} {p : Plan} {base : Nat}

theorem along_trace : ∀ (n s : Nat) {x z : Way}, along P R ops p base (List.range' s n) x = .ok z →
    ∃ Y : Nat → Way, Y s = x ∧ (∀ m, s ≤ m → m < s + n → stepOn P R ops p base m (Y m) = .ok (Y (m + 1))) ∧ Y (s + n) = z := by
  intro n
  induction n with
  | zero =>
    intro s x z h
    simp only [List.range'_zero, along, Res.ok.injEq] at h
    exact ⟨fun _ => x, rfl, fun m h1 h2 => by omega, h⟩
  | succ n ih =>
    intro s x z h
    rw [List.range'_succ] at h
    unfold along at h
    obtain ⟨y, hy, h⟩ := Res.bind_ok.1 h
    obtain ⟨Y, h1, h2, h3⟩ := ih (s + 1) h
    refine ⟨fun m => if m = s then x else Y m, by simp, fun m k1 k2 => ?_, ?_⟩
    · by_cases hm : m = s
      · subst hm; simp [h1, hy]
      · have : m + 1 ≠ s := by omega
        simp only [hm, this, if_false]
        exact h2 m (by omega) (by omega)
    · have : s + (n + 1) ≠ s := by omega
      simp only [this, if_false]
      rw [← h3]; congr 1; omega

/-- What a step saw. -/
inductive Saw (P : Program) [Tab P] (R : Rec) (ops : List Oper) (p : Plan) (base i : Nat) (o : Oper) (x : Way) (b : Bool) (v : Value) : Way → Prop where
  | pure (hk : kd o = .pure) {σ1 : Hp} (h : wants b (void base) (plain P x.fr (void base) o) = .ok (v, σ1)) (hn : σ1.next = base) : Saw P R ops p base i o x b v { x with fr := putFr x.fr o.dst v }
  | idle (hk : kd o = .load ∨ kd o = .alloc) (hb : b = false) (hv : v = undef) : Saw P R ops p base i o x b v { x with fr := putFr x.fr o.dst v }
  | load (hk : kd o = .load) (hb : b = true) : Saw P R ops p base i o x b v { x with fr := putFr x.fr o.dst v, loads := (i, x.fr, v) :: x.loads }
  | alloc (hk : kd o = .alloc) (hb : b = true) {σ1 : Hp} {ob : Ob} (h : plain P x.fr (void (base + i)) o = .ok (v, σ1)) (hn : σ1.next = base + i + 1) (hr : i < p.room) (hg : σ1.get (base + i) = some ob) :
      Saw P R ops p base i o x b v { x with fr := putFr x.fr o.dst v, all := (i, ob) :: x.all }
  | eff (hk : kd o = .eff) {σ1 : Hp} (h : wants b (adopt base (maskAt p i) x.low x.all x.σ) (oper P R x.fr (adopt base (maskAt p i) x.low x.all x.σ) o) = .ok (v, σ1)) :
      Saw P R ops p base i o x b v { x with fr := putFr x.fr o.dst v, σ := σ1, low := x.low ||| maskAt p i ||| 2 ^ i, stages := (σ1, x.low ||| maskAt p i ||| 2 ^ i) :: x.stages }

theorem stepOn_saw {i : Nat} {x y : Way} (h : stepOn P R ops p base i x = .ok y) : ∃ o b v, ops[i]? = some o ∧ wanted ops x.fr o = .ok b ∧ Saw P R ops p base i o x b v y := by
  unfold stepOn at h
  obtain ⟨o, ho, h⟩ := Res.bind_ok.1 h
  obtain ⟨b, hb, h⟩ := Res.bind_ok.1 h
  have ho := need_ok.1 ho
  split at h
  · rename_i hk
    obtain ⟨⟨v, σ1⟩, h1, h⟩ := Res.bind_ok.1 h
    obtain ⟨h2, h⟩ := sure_ok.1 h
    cases h
    exact ⟨o, b, v, ho, hb, .pure hk h1 (by simpa using h2)⟩
  · rename_i hk
    cases b with
    | false => cases h; exact ⟨o, false, undef, ho, hb, .idle (.inl hk) rfl rfl⟩
    | true =>
      obtain ⟨⟨v, σ1⟩, h1, h⟩ := Res.bind_ok.1 h
      cases h
      exact ⟨o, true, v, ho, hb, .load hk rfl⟩
  · rename_i hk
    cases b with
    | false => cases h; exact ⟨o, false, undef, ho, hb, .idle (.inr hk) rfl rfl⟩
    | true =>
      obtain ⟨⟨v, σ1⟩, h1, h⟩ := Res.bind_ok.1 h
      obtain ⟨h2, h⟩ := sure_ok.1 h
      obtain ⟨ob, h3, h⟩ := Res.bind_ok.1 h
      cases h
      simp only [Bool.and_eq_true] at h2
      exact ⟨o, true, v, ho, hb, .alloc hk rfl h1 (by simpa using h2.1) (by simpa using h2.2) (need_ok.1 h3)⟩
  · rename_i hk
    obtain ⟨⟨v, σ1⟩, h1, h⟩ := Res.bind_ok.1 h
    cases h
    exact ⟨o, b, v, ho, hb, .eff hk h1⟩

theorem agree_ok {all : List (Nat × Ob)} {i : Nat} {fr : Fr} {v : Value} : ∀ {l : List (Hp × Nat)}, agree P ops p base all i fr v l = true → ∀ h low, (h, low) ∈ l → mayCome p i low = true →
    ∃ o u σ1, ops[i]? = some o ∧ plain P fr (adopt base (maskAt p i) low all h) o = .ok (u, σ1) ∧ veq 8 u v = true := by
  intro l
  induction l with
  | nil => intro _ h low hm; simp at hm
  | cons x l ih =>
    intro ha h low hm hc
    obtain ⟨h1, low1⟩ := x
    simp only [agree, Bool.and_eq_true] at ha
    rcases List.mem_cons.1 hm with hm | hm
    · cases hm
      have ha := ha.1
      rw [hc] at ha
      simp only at ha
      cases ho : ops[i]? with
      | none => simp [ho] at ha
      | some o =>
        simp only [ho] at ha
        cases hp : plain P fr (adopt base (maskAt p i) low all h) o with
        | no s => simp [hp] at ha
        | ok r => obtain ⟨u, σ1⟩ := r; simp only [hp] at ha; exact ⟨o, u, σ1, rfl, hp, ha⟩
    · exact ih ha.2 h low hm hc

theorem agrees_ok {all : List (Nat × Ob)} {st : List (Hp × Nat)} : ∀ {l : List (Nat × Fr × Value)}, agrees P ops p base all st l = true → ∀ i fr v, (i, fr, v) ∈ l → agree P ops p base all i fr v st = true := by
  intro l
  induction l with
  | nil => intro _ i fr v hm; simp at hm
  | cons x l ih =>
    intro ha i fr v hm
    obtain ⟨j, fr1, v1⟩ := x
    simp only [agrees, Bool.and_eq_true] at ha
    rcases List.mem_cons.1 hm with hm | hm
    · cases hm; exact ha.1
    · exact ih ha.2 i fr v hm

end way

end Go.Cx

/-
  CxV: 'veq' is equality.
-/

namespace Go.Cx

theorem allTwo_eq {f : Value → Value → Bool} (hf : ∀ a b, f a b = true → a = b) : ∀ {x y : List Value}, allTwo f x y = true → x = y := by
  intro x
  induction x with
  | nil => intro y h; cases y <;> simp [allTwo] at h ⊢
  | cons a x ih =>
    intro y h
    cases y with
    | nil => simp [allTwo] at h
    | cons b y =>
      simp only [allTwo, Bool.and_eq_true] at h
      rw [hf a b h.1, ih h.2]

theorem allTwo_arr {f : Value → Value → Bool} (hf : ∀ a b, f a b = true → a = b) {x y : Array Value} (h : allTwo f x.toList y.toList = true) : x = y := Array.toList_inj.1 (allTwo_eq hf h)

theorem fnEq_eq {f g : Fn} (h : fnEq f g = true) : f = g := by
  cases f <;> cases g <;> simp_all [fnEq]

theorem str_eq {a b : ByteArray} (h : a.data.toList = b.data.toList) : a = b := by
  cases a; cases b; congr 1; exact Array.toList_inj.1 h

theorem veq_eq : ∀ (n : Nat) (u v : Value), veq n u v = true → u = v := by
  intro n
  induction n with
  | zero =>
    intro u v h
    cases u <;> cases v <;> simp [veq] at h <;> first | (obtain ⟨⟨rfl, rfl⟩, rfl⟩ := h; rfl) | (obtain ⟨rfl, rfl⟩ := h; rfl) | (subst h; rfl) | rfl | (congr 1; exact str_eq (by simpa using h))
  | succ n ih =>
    intro u v h
    cases u <;> cases v <;> simp only [veq, Bool.false_eq_true, Bool.and_eq_true, decide_eq_true_eq, beq_iff_eq] at h
    case func => rw [fnEq_eq h.1.1, allTwo_arr ih h.1.2, allTwo_arr ih h.2]
    case iface => rw [h.1, ih _ _ h.2]
    case agg => rw [allTwo_arr ih h]
    case tuple => rw [allTwo_arr ih h]
    all_goals first | (obtain ⟨⟨rfl, rfl⟩, rfl⟩ := h; rfl) | (obtain ⟨rfl, rfl⟩ := h; rfl) | (subst h; rfl) | rfl | (congr 1; exact str_eq h)

end Go.Cx

/-
  CxT: the facts of a region's way.
-/

namespace Go.Cx
variable {P : Program} [Tab P] [TabOk P]

structure Ran (P : Program) [Tab P] (R : Rec) (L : List Oper) (p : Plan) (base : Nat) (fr₀ : Fr) (σr : Hp) (Y : Nat → Way) : Prop where
  first : Y 0 = ⟨fr₀, σr, 0, [], [], [(σr, 0)]⟩
  step : ∀ m, m < L.length → stepOn P R L p base m (Y m) = .ok (Y (m + 1))

theorem putFr_n (fr : Fr) (d : Option Tmp) (v : Value) : (putFr fr d v).n = fr.n := by cases d <;> simp [putFr]

theorem putFr_at {fr : Fr} {d : Option Tmp} {v : Value} {t : Nat} (h : d ≠ some t) : (putFr fr d v).at t = fr.at t := by
  cases d with
  | none => rfl
  | some d =>
    have : t ≠ d := fun e => h (by rw [e])
    simp [putFr, Fr.at_put, this]

/-- Operation 'k' made the block. -/
def Made (P : Program) [Tab P] (L : List Oper) (p : Plan) (base : Nat) (Y : Nat → Way) (k : Nat) (ob : Ob) : Prop :=
  k < p.room ∧ ∃ o v σ1, L[k]? = some o ∧ kd o = Kd.alloc ∧ wanted L (Y k).fr o = Res.ok true ∧ plain P (Y k).fr (void (base + k)) o = Res.ok (v, σ1) ∧ σ1.next = base + k + 1 ∧ σ1.get (base + k) = some ob

section ran
variable {R : Rec} {L : List Oper} {p : Plan} {base : Nat} {fr₀ : Fr} {σr : Hp} {Y : Nat → Way} (h : Ran P R L p base fr₀ σr Y)
include h

theorem Ran.saw {m : Nat} (hm : m < L.length) : ∃ o b v, L[m]? = some o ∧ wanted L (Y m).fr o = .ok b ∧ Saw P R L p base m o (Y m) b v (Y (m + 1)) := stepOn_saw (h.step m hm)

/-- A step's plain marks. -/
theorem Ran.marks {m : Nat} (hm : m < L.length) : ∃ o v, L[m]? = some o ∧ (Y (m + 1)).fr = putFr (Y m).fr o.dst v ∧
    (∀ x ∈ (Y m).all, x ∈ (Y (m + 1)).all) ∧ (∀ x ∈ (Y m).loads, x ∈ (Y (m + 1)).loads) ∧ (∀ x ∈ (Y m).stages, x ∈ (Y (m + 1)).stages) ∧
    ((kd o ≠ .eff ∧ (Y (m + 1)).σ = (Y m).σ ∧ (Y (m + 1)).low = (Y m).low) ∨
     (kd o = .eff ∧ ((Y (m + 1)).σ, (Y (m + 1)).low) ∈ (Y (m + 1)).stages ∧ (Y (m + 1)).low = (Y m).low ||| maskAt p m ||| 2 ^ m)) := by
  obtain ⟨o, b, v, h1, _, h3⟩ := h.saw hm
  refine ⟨o, v, h1, ?_⟩
  generalize Y (m + 1) = y at h3
  cases h3 with
  | pure hk _ _ => exact ⟨rfl, fun x hx => hx, fun x hx => hx, fun x hx => hx, .inl ⟨by rw [hk]; simp, rfl, rfl⟩⟩
  | idle hk _ _ => exact ⟨rfl, fun x hx => hx, fun x hx => hx, fun x hx => hx, .inl ⟨by rcases hk with hk | hk <;> (rw [hk]; simp), rfl, rfl⟩⟩
  | load hk _ => exact ⟨rfl, fun x hx => hx, fun x hx => List.mem_cons_of_mem _ hx, fun x hx => hx, .inl ⟨by rw [hk]; simp, rfl, rfl⟩⟩
  | alloc hk _ _ _ _ _ => exact ⟨rfl, fun x hx => List.mem_cons_of_mem _ hx, fun x hx => hx, fun x hx => hx, .inl ⟨by rw [hk]; simp, rfl, rfl⟩⟩
  | eff hk _ => exact ⟨rfl, fun x hx => hx, fun x hx => hx, fun x hx => List.mem_cons_of_mem _ hx, .inr ⟨hk, by simp, rfl⟩⟩

theorem Ran.n {m : Nat} (hm : m ≤ L.length) : (Y m).fr.n = fr₀.n := by
  induction m with
  | zero => rw [h.first]
  | succ m ih =>
    obtain ⟨o, v, _, h2, _⟩ := h.marks (by omega : m < L.length)
    rw [h2, putFr_n]; exact ih (by omega)

theorem Ran.after {m t : Nat} : ∀ {d : Nat}, m + d ≤ L.length → (∀ k, m ≤ k → k < m + d → ∀ o, L[k]? = some o → o.dst ≠ some t) → (Y (m + d)).fr.at t = (Y m).fr.at t := by
  intro d
  induction d with
  | zero => intro _ _; rfl
  | succ d ih =>
    intro hm hk
    obtain ⟨o, v, h1, h2, _⟩ := h.marks (by omega : m + d < L.length)
    rw [← Nat.add_assoc, h2, putFr_at (hk (m + d) (by omega) (by omega) o h1)]
    exact ih (by omega) fun k k1 k2 => hk k k1 (by omega)

theorem Ran.mono {m : Nat} : ∀ {d : Nat}, m + d ≤ L.length → (∀ x ∈ (Y m).all, x ∈ (Y (m + d)).all) ∧ (∀ x ∈ (Y m).loads, x ∈ (Y (m + d)).loads) ∧ (∀ x ∈ (Y m).stages, x ∈ (Y (m + d)).stages) := by
  intro d
  induction d with
  | zero => intro _; exact ⟨fun x hx => hx, fun x hx => hx, fun x hx => hx⟩
  | succ d ih =>
    intro hm
    obtain ⟨i1, i2, i3⟩ := ih (by omega)
    obtain ⟨o, v, _, _, h3, h4, h5, _⟩ := h.marks (by omega : m + d < L.length)
    exact ⟨fun x hx => h3 x (i1 x hx), fun x hx => h4 x (i2 x hx), fun x hx => h5 x (i3 x hx)⟩

theorem Ran.staged {m : Nat} (hm : m ≤ L.length) : ((Y m).σ, (Y m).low) ∈ (Y m).stages := by
  induction m with
  | zero => rw [h.first]; simp
  | succ m ih =>
    obtain ⟨o, v, _, _, _, _, h5, h6⟩ := h.marks (by omega : m < L.length)
    rcases h6 with ⟨_, h7, h8⟩ | ⟨_, h7, _⟩
    · rw [h7, h8]; exact h5 _ (ih (by omega))
    · exact h7

theorem Ran.low {m : Nat} (hm : m ≤ L.length) (k : Nat) : (Y m).low.testBit k = true ↔ ∃ e o, e < m ∧ L[e]? = some o ∧ kd o = .eff ∧ (k = e ∨ (maskAt p e).testBit k = true) := by
  induction m with
  | zero => rw [h.first]; simp
  | succ m ih =>
    obtain ⟨o, v, h1, _, _, _, _, h6⟩ := h.marks (by omega : m < L.length)
    have ih := ih (by omega)
    rcases h6 with ⟨h6, _, h8⟩ | ⟨h6, _, h8⟩
    · rw [h8, ih]
      constructor
      · rintro ⟨e, o', a, b⟩; exact ⟨e, o', by omega, b⟩
      · rintro ⟨e, o', a, b, c, d⟩
        by_cases he : e = m
        · subst he; rw [h1] at b; cases b; exact absurd c h6
        · exact ⟨e, o', by omega, b, c, d⟩
    · rw [h8, Nat.testBit_or, Nat.testBit_or, Bool.or_eq_true, Bool.or_eq_true, ih, Nat.testBit_two_pow, decide_eq_true_eq]
      constructor
      · rintro ((⟨e, o', a, b⟩ | a) | a)
        · exact ⟨e, o', by omega, b⟩
        · exact ⟨m, o, by omega, h1, h6, .inr a⟩
        · exact ⟨m, o, by omega, h1, h6, .inl a.symm⟩
      · rintro ⟨e, o', a, b, c, d⟩
        by_cases he : e = m
        · subst he
          rcases d with d | d
          · exact .inr d.symm
          · exact .inl (.inr d)
        · exact .inl (.inl ⟨e, o', by omega, b, c, d⟩)

theorem Ran.quiet {m : Nat} : ∀ {d : Nat}, m + d ≤ L.length → (∀ k, m ≤ k → k < m + d → ∀ o, L[k]? = some o → kd o ≠ .eff) → (Y (m + d)).σ = (Y m).σ ∧ (Y (m + d)).low = (Y m).low := by
  intro d
  induction d with
  | zero => intro _ _; exact ⟨rfl, rfl⟩
  | succ d ih =>
    intro hm hk
    obtain ⟨o, v, h1, _, _, _, _, h6⟩ := h.marks (by omega : m + d < L.length)
    obtain ⟨i1, i2⟩ := ih (by omega) fun k k1 k2 => hk k k1 (by omega)
    rcases h6 with ⟨_, h7, h8⟩ | ⟨h6, _⟩
    · rw [← Nat.add_assoc, h7, h8]; exact ⟨i1, i2⟩
    · exact absurd h6 (hk (m + d) (by omega) (by omega) o h1)

theorem Ran.made {m : Nat} (hm : m ≤ L.length) {k : Nat} {ob : Ob} (hk : (k, ob) ∈ (Y m).all) : Made P L p base Y k ob ∧ k < m := by
  induction m with
  | zero => rw [h.first] at hk; simp at hk
  | succ m ih =>
    obtain ⟨o, b, v, h1, h2, h3⟩ := h.saw (by omega : m < L.length)
    have old : (k, ob) ∈ (Y m).all → Made P L p base Y k ob ∧ k < m + 1 := fun hk => let ⟨a, b⟩ := ih (by omega) hk; ⟨a, by omega⟩
    generalize hy : Y (m + 1) = y at h3 hk
    cases h3 with
    | pure _ _ _ => exact old hk
    | idle _ _ _ => exact old hk
    | load _ _ => exact old hk
    | eff _ _ => exact old hk
    | alloc hkd hb h4 h5 h6 h7 =>
      rcases List.mem_cons.1 hk with hk | hk
      · cases hk
        subst hb
        exact ⟨⟨h6, o, v, _, h1, hkd, h2, h4, h5, h7⟩, by omega⟩
      · exact old hk

theorem Ran.once {m : Nat} (hm : m ≤ L.length) {k : Nat} {ob ob' : Ob} (h1 : (k, ob) ∈ (Y m).all) (h2 : (k, ob') ∈ (Y m).all) : ob = ob' := by
  obtain ⟨⟨_, o, v, σ1, a1, _, _, a2, _, a3⟩, _⟩ := h.made hm h1
  obtain ⟨⟨_, o', v', σ1', b1, _, _, b2, _, b3⟩, _⟩ := h.made hm h2
  rw [a1] at b1; cases b1
  rw [a2] at b2; cases b2
  rw [a3] at b3; cases b3; rfl

end ran
end Go.Cx

/-
  CxU: a region that draws its order does what the evaluator saw in the text's order.
-/

namespace Go.Cx
variable {P : Program} [Tab P] [TabOk P]

theorem op_go {F : Fence} (ho : Opn F) {ops : Array Oper} {Q : Exit → Act → World → Prop} {i : Nat} {o : Oper} {a : Act} {w : World} {K : Act → World → Prop} {C : Value → World → Prop} {b : Bool} (hi : ops[i]? = some o)
    (hw : Region.wanted o (yielded ops a.tmps) = b) (hb : (b = true ∧ Does F P o a w C) ∨ (b = false ∧ C undef w)) (hK : ∀ v' w', C v' w' → K (a.put o.dst v') w') : wpOpIn F 0 P ops Q i K a w := by
  unfold wpOpIn
  simp only [hi, hw]
  rcases hb with ⟨rfl, h⟩ | ⟨rfl, h⟩
  · exact h _ _ hK
  · exact ⟨fun f _ => ho.fn f, hK _ _ h⟩

structure Inv (P : Program) [Tab P] (L : List Oper) (p : Plan) (Y : Nat → Way) (ι₀ : Emb) (σ₀ : Hp) (w₀ : World) (ds : List Deferred) (m : Nat) (S : Nat → Prop) (ι : Emb) (w : World) (fr : Fr) (a : Act) : Prop where
  hm : m ≤ L.length
  closed : ∀ i k, S i → (maskAt p i).testBit k = true → S k
  stage : ∀ (i : Nat) o, L[i]? = some o → kd o = .eff → (S i ↔ i < m)
  lt : ∀ i, S i → i < L.length
  rel : Rel P ι (Y m).σ w
  step : Step ι₀ σ₀ w₀ ι (Y m).σ w
  free : Free ι (Y m).σ.next
  room : σ₀.next + p.room ≤ (Y m).σ.next
  own : ∀ k, k < p.room → (Y m).σ.is (σ₀.next + k) → (Y m).low.testBit k = true
  held : ∀ k ob, (k, ob) ∈ (Y L.length).all → S k → (Y m).low.testBit k = false → Holds P ι w (σ₀.next + k) ob
  unb : ∀ k, k < p.room → ¬ S k → ι (σ₀.next + k) = .unborn
  frel : FRel ι fr a.tmps
  fr1 : ∀ (t k : Nat) o, S k → L[k]? = some o → o.dst = some t → fr.at t = (Y L.length).fr.at t
  fr2 : ∀ t, (∀ (k : Nat) o, S k → L[k]? = some o → o.dst ≠ some t) → fr.at t = (Y 0).fr.at t
  nn : fr.n = (Y 0).fr.n
  defers : a.defers = ds

section draw
variable {F : Fence} {R : Rec} {ops : Array Oper} {p : Plan} {Y : Nat → Way} {fr₀ : Fr} {σr : Hp} {ι₀ : Emb} {σ₀ : Hp} {w₀ : World} {ds : List Deferred}
  {m : Nat} {S : Nat → Prop} {ι : Emb} {w : World} {fr : Fr} {a : Act}

/-- What an operation names is as it was when the evaluator came by. -/
theorem Inv.names (hp : PlanOk ops.toList p) (hY : Ran P R ops.toList p σ₀.next fr₀ σr Y) (h : Inv P ops.toList p Y ι₀ σ₀ w₀ ds m S ι w fr a) {i : Nat} {o : Oper} (hi : ops.toList[i]? = some o) (hS : ¬ S i)
    (hpre : ∀ k, (maskAt p i).testBit k = true → S k) : ∀ t ∈ namesOf ops.toList o, fr.at t = (Y i).fr.at t := by
  intro t ht
  have hin : i < ops.toList.length := (List.getElem?_eq_some_iff.1 hi).1
  by_cases hw : ∃ (k : Nat) (x : Oper), ops.toList[k]? = some x ∧ x.dst = some t ∧ k < i ∧ S k
  · obtain ⟨k, x, h1, h2, h3, h4⟩ := hw
    rw [h.fr1 t k x h4 h1 h2]
    have := hY.after (m := i) (t := t) (d := ops.toList.length - i) (by omega) fun k' q1 q2 o' q3 q4 => by
      by_cases hkk : k' = k
      · omega
      · exact (hp.apart k x t h1 h2 k' o' q3 (fun e => hkk e.symm)).1 q4
    have e : i + (ops.toList.length - i) = ops.toList.length := by omega
    rw [e] at this
    exact this
  · have e0 : i = 0 + i := by omega
    have noS : ∀ (k : Nat) x, S k → ops.toList[k]? = some x → x.dst ≠ some t := by
      intro k x h1 h2 h3
      have hki : k ≠ i := fun e => hS (e ▸ h1)
      rcases (hp.apart k x t h2 h3 i o hi hki).2 ht with ⟨q1, q2⟩ | ⟨q1, q2⟩
      · exact hw ⟨k, x, h2, h3, q1, h1⟩
      · exact hS (h.closed k i h1 q2)
    rw [h.fr2 t noS, ← hY.after (m := 0) (t := t) (d := i) (by omega) fun k q1 q2 x q3 q4 => ?_, ← e0]
    have hki : k ≠ i := by omega
    rcases (hp.apart k x t q3 q4 i o hi hki).2 ht with ⟨r1, r2⟩ | ⟨r1, r2⟩
    · exact hw ⟨k, x, q3, q4, by omega, hpre k r2⟩
    · omega

/-- The temporaries behind an operation. -/
theorem Inv.frames (hp : PlanOk ops.toList p) (hY : Ran P R ops.toList p σ₀.next fr₀ σr Y) (h : Inv P ops.toList p Y ι₀ σ₀ w₀ ds m S ι w fr a) {i : Nat} {o : Oper} {v : Value} (hi : ops.toList[i]? = some o) (hS : ¬ S i)
    (hv : (Y (i + 1)).fr = putFr (Y i).fr o.dst v) (hpre : ∀ k, (maskAt p i).testBit k = true → S k) :
    (∀ (t k : Nat) x, (S k ∨ k = i) → ops.toList[k]? = some x → x.dst = some t → (putFr fr o.dst v).at t = (Y ops.toList.length).fr.at t) ∧
    (∀ t, (∀ (k : Nat) x, (S k ∨ k = i) → ops.toList[k]? = some x → x.dst ≠ some t) → (putFr fr o.dst v).at t = (Y 0).fr.at t) := by
  have hin : i < ops.toList.length := (List.getElem?_eq_some_iff.1 hi).1
  constructor
  · intro t k x hk hx hd
    by_cases hki : k = i
    · subst hki
      rw [hi] at hx; cases hx
      have e1 := hY.after (m := k + 1) (t := t) (d := ops.toList.length - (k + 1)) (by omega) fun k' q1 q2 o' q3 q4 =>
        (hp.apart k o t hi hd k' o' q3 (by omega)).1 q4
      have e2 : k + 1 + (ops.toList.length - (k + 1)) = ops.toList.length := by omega
      rw [e2] at e1
      rw [e1, hv, hd]
      simp only [putFr, Fr.at_put, true_and]
      have n1 : fr.n = fr₀.n := by rw [h.nn, hY.first]
      have n2 : (Y k).fr.n = fr₀.n := hY.n (by omega)
      rw [n1, n2]
      by_cases hlt : t < fr₀.n
      · simp [hlt]
      · simp only [hlt, if_false]
        have f1 := h.fr2 t fun k' x' q1 q2 q3 => by
          by_cases hkk : k = k'
          · subst hkk; exact hS q1
          · exact (hp.apart k o t hi hd k' x' q2 hkk).1 q3
        have f2 := hY.after (m := 0) (t := t) (d := k) (by omega) fun k' q1 q2 x' q3 q4 => (hp.apart k o t hi hd k' x' q3 (by omega)).1 q4
        have e : 0 + k = k := by omega
        rw [e] at f2
        rw [f1, ← f2]
    · have hk : S k := by rcases hk with hk | hk; exact hk; exact absurd hk hki
      rw [putFr_at fun e => (hp.apart k x t hx hd i o hi hki).1 e]
      exact h.fr1 t k x hk hx hd
  · intro t ht
    rw [putFr_at (ht i o (.inr rfl) hi)]
    exact h.fr2 t fun k x hk => ht k x (.inl hk)

end draw
end Go.Cx
