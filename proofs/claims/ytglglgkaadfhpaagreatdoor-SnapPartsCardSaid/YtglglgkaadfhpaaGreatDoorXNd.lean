/-
  CxNd: names of blocks: equality, keys of a map.
-/
import Derived.Test.YtglglgkaadfhpaaGreatDoorXNa
set_option linter.all false
namespace Go.Cx
open Go.Proofs
set_option maxRecDepth 100000

theorem under44 : Tryz.prog.underlying 44 = some (.array 32 5) := by kernel_rfl
theorem size5 : (Tryz.prog.info? 5).map (·.size) = some 1 := by kernel_rfl

theorem prun_sizeOf5 : prun Tryz.prog (sizeOf 5) = some 1 := by rw [prun_sizeOf, size5]

theorem prun_part5 {xs : Array Value} {i : Nat} {v : Value} (h : xs[i]? = some v) : prun Tryz.prog (part 5 xs (i * 1)) = some v := by
  unfold part Go.isAgg
  simp only [prun_bind, prun_underlying, under5, Option.bind_some, prun_pure, Nat.mul_one, h]
  rfl

theorem eq5 (d : Nat) (a b : UInt8) : prun Tryz.prog (Op.equalIn (d + 1) 5 (byteV a) (byteV b)) = some (decide (a = b)) := by
  unfold Op.equalIn byteV
  simp only [prun_bind, prun_underlying, under5, Option.bind_some, if_true, prun_pure]
  congr 1
  by_cases h : a = b
  · subst h; simp
  · have : ¬ ((a.toNat : Int) = (b.toNat : Int)) := fun e => h (UInt8.toNat_inj.1 (by exact_mod_cast e))
    simp [h, this]

theorem prun_forIn_all {body : Nat → Option Bool × Unit → Sem (ForInStep (Option Bool × Unit))} {b : Nat → Bool} : ∀ (l : List Nat), (∀ i ∈ l, prun Tryz.prog (body i (none, ())) = some (if b i then .yield (none, ()) else .done (some false, ()))) →
    prun Tryz.prog (forIn l (none, ()) body) = some (if l.all b then (none, ()) else (some false, ()))
  | [], _ => by simp
  | i :: l, h => by
    rw [List.forIn_cons, prun_bind, h i (by simp)]
    simp only [Option.bind_some]
    cases hb : b i with
    | true =>
      simp only [if_true, List.all_cons, hb, Bool.true_and]
      exact prun_forIn_all l fun j hj => h j (by simp [hj])
    | false =>
      simp [hb]

theorem bytes_at {x : List UInt8} {i : Nat} (h : i < x.length) : (x.map byteV).toArray[i]? = some (byteV x[i]) := by simp [h]

theorem eq44 (x y : List UInt8) (hx : x.length = 32) (hy : y.length = 32) : prun Tryz.prog (Op.equal 44 (.agg (x.map byteV).toArray) (.agg (y.map byteV).toArray)) = some (decide (x = y)) := by
  unfold Op.equal
  have : Op.maxDepth = 9999 + 1 := rfl
  rw [this]
  unfold Op.equalIn
  simp only [prun_bind, prun_underlying, under44, Option.bind_some, prun_sizeOf5]
  rw [Std.Legacy.Range.forIn_eq_forIn_range', prun_forIn_all (b := fun i => decide (x[i]? = y[i]?))]
  · simp only [Option.bind_some]
    have e : (decide (x = y)) = ((List.range' [:32].start [:32].size [:32].step).all fun i => decide (x[i]? = y[i]?)) := by
      rw [Bool.eq_iff_iff]
      simp only [decide_eq_true_eq, List.all_eq_true]
      constructor
      · intro h i _; rw [h]
      · intro h
        apply List.ext_getElem?
        intro i
        by_cases hi : i < 32
        · exact h i (by simp [List.mem_range'_1, Std.Legacy.Range.size]; omega)
        · rw [List.getElem?_eq_none (by omega), List.getElem?_eq_none (by omega)]
    rw [e]
    generalize ((List.range' [:32].start [:32].size [:32].step).all fun i => decide (x[i]? = y[i]?)) = b
    cases b <;> rfl
  · intro i hi
    have hi : i < 32 := by simp [List.mem_range'_1, Std.Legacy.Range.size] at hi; omega
    have h1 := prun_part5 (bytes_at (x := x) (i := i) (by omega))
    have h2 := prun_part5 (bytes_at (x := y) (i := i) (by omega))
    simp only [prun_bind, h1, h2, Option.bind_some]
    rw [show (9999 : Nat) = 9998 + 1 from rfl, eq5]
    simp only [Option.bind_some, List.getElem?_eq_getElem (by omega : i < x.length), List.getElem?_eq_getElem (by omega : i < y.length), Option.some.injEq]
    by_cases h : x[i] = y[i] <;> simp [h]

theorem prun_forIn_unit {body : Nat → PUnit → Sem (ForInStep PUnit)} : ∀ (l : List Nat), (∀ i ∈ l, prun Tryz.prog (body i PUnit.unit) = some (.yield PUnit.unit)) → prun Tryz.prog (forIn l PUnit.unit body) = some PUnit.unit
  | [], _ => by simp
  | i :: l, h => by
    rw [List.forIn_cons, prun_bind, h i (by simp)]
    simp only [Option.bind_some]
    exact prun_forIn_unit l fun j hj => h j (by simp [hj])

theorem check5 (e : Bool) (n : Nat) (a : UInt8) : prun Tryz.prog (Instr.checkKey e (n + 1) 5 (byteV a)) = some () := by
  unfold Instr.checkKey byteV
  simp only [prun_bind, prun_underlying, under5, Option.bind_some, prun_pure]

theorem check44 (e : Bool) (x : List UInt8) (hx : x.length = 32) : prun Tryz.prog (Instr.checkKey e 10000 44 (.agg (x.map byteV).toArray)) = some () := by
  have : 10000 = 9999 + 1 := rfl
  rw [this]
  unfold Instr.checkKey
  simp only [prun_bind, prun_underlying, under44, Option.bind_some, prun_sizeOf5]
  rw [Std.Legacy.Range.forIn_eq_forIn_range', prun_forIn_unit]
  · rfl
  · intro i hi
    have hi : i < 32 := by simp [List.mem_range'_1, Std.Legacy.Range.size] at hi; omega
    have h1 := prun_part5 (bytes_at (x := x) (i := i) (by omega))
    simp only [prun_bind, prun_sizeOf5, h1, Option.bind_some]
    rw [show (9999 : Nat) = 9998 + 1 from rfl, check5]
    rfl

theorem find44 {x : List UInt8} (hx : x.length = 32) : ∀ {es : List MapEntry} (i : Nat), (∀ e ∈ es, ∃ y : List UInt8, e.key = .agg (y.map byteV).toArray ∧ y.length = 32 ∧ x ≠ y) → prun Tryz.prog (Instr.findAsking 44 (.agg (x.map byteV).toArray) es i) = some none := by
  intro es
  induction es with
  | nil => intro i _; simp [Instr.findAsking]
  | cons e es ih =>
    intro i h
    obtain ⟨y, h1, h2, h3⟩ := h e (by simp)
    unfold Instr.findAsking
    rw [prun_bind, h1, eq44 x y hx h2]
    simp only [h3, decide_false, Option.bind_some, Bool.false_eq_true, if_false]
    exact ih (i + 1) fun e he => h e (by simp [he])

theorem key44 {x : List UInt8} (hx : x.length = 32) {es : List MapEntry} (h : ∀ e ∈ es, ∃ y : List UInt8, e.key = .agg (y.map byteV).toArray ∧ y.length = 32 ∧ x ≠ y) : prun Tryz.prog (Instr.findKey 44 (.agg (x.map byteV).toArray) es) = some none := by
  unfold Instr.findKey
  simp only [prun_bind, prun_underlying, under44, Option.bind_some]
  cases es with
  | nil => rfl
  | cons e es =>
    obtain ⟨y, h1, h2, h3⟩ := h e (by simp)
    have : Instr.findNow (.array 32 5) (.agg (x.map byteV).toArray) (e :: es) 0 = none := by
      unfold Instr.findNow Instr.sameNow
      rfl
    rw [this]
    exact find44 hx 0 h

end Go.Cx

/-
  CxNe: how names of blocks compare.
-/

namespace Go.Cx

/-- Before. -/
def Bef (a b : ByteArray) : Prop := ∃ i, i < min a.size b.size ∧ a[i]! < b[i]! ∧ ∀ j, j < i → a[j]! = b[j]!

theorem cmp_bef {a b : ByteArray} (h : Bef a b) : Extern.BytealgCompare.cmp a b = -1 := by
  obtain ⟨i, h1, h2, h3⟩ := h
  have hne : a[i]! ≠ b[i]! := fun e => by rw [e] at h2; exact absurd h2 (by simp)
  have : (List.range (min a.size b.size)).find? (fun i => a[i]! != b[i]!) = some i := by
    rw [List.find?_range_eq_some]
    exact ⟨by simpa using hne, by simpa using h1, fun j hj => by simp [h3 j hj]⟩
  unfold Extern.BytealgCompare.cmp
  rw [this]
  simp [h2]

theorem cmp_aft {a b : ByteArray} (h : Bef b a) : Extern.BytealgCompare.cmp a b = 1 := by
  obtain ⟨i, h1, h2, h3⟩ := h
  have hne : a[i]! ≠ b[i]! := fun e => by rw [e] at h2; exact absurd h2 (by simp)
  have : (List.range (min a.size b.size)).find? (fun i => a[i]! != b[i]!) = some i := by
    rw [List.find?_range_eq_some]
    exact ⟨by simpa using hne, by simp; omega, fun j hj => by simp [h3 j hj]⟩
  unfold Extern.BytealgCompare.cmp
  rw [this]
  have : ¬ a[i]! < b[i]! := fun h => absurd (UInt8.lt_trans h h2) (by simp)
  simp [this]

theorem cmp_three (a b : ByteArray) (hs : a.size = b.size) : (Bef a b ∧ Extern.BytealgCompare.cmp a b = -1) ∨ Extern.BytealgCompare.cmp a b = 0 ∨ Extern.BytealgCompare.cmp a b = 1 := by
  cases hf : (List.range (min a.size b.size)).find? (fun i => a[i]! != b[i]!) with
  | none =>
    right; left
    unfold Extern.BytealgCompare.cmp
    rw [hf]
    simp [hs]
  | some i =>
    obtain ⟨h1, h2, h3⟩ := List.find?_range_eq_some.1 hf
    by_cases hlt : a[i]! < b[i]!
    · left
      have hb : Bef a b := ⟨i, by simpa using h2, hlt, fun j hj => by simpa using h3 j hj⟩
      exact ⟨hb, cmp_bef hb⟩
    · right; right
      unfold Extern.BytealgCompare.cmp
      rw [hf]
      simp [hlt]

theorem Bef.trans {a b c : ByteArray} (h : Bef a b) (k : Bef b c) : Bef a c := by
  obtain ⟨i, h1, h2, h3⟩ := h
  obtain ⟨j, k1, k2, k3⟩ := k
  rcases Nat.lt_trichotomy i j with hij | hij | hij
  · exact ⟨i, by omega, by rw [← k3 i hij]; exact h2, fun m hm => by rw [h3 m hm, k3 m (by omega)]⟩
  · subst hij
    exact ⟨i, by omega, UInt8.lt_trans h2 k2, fun m hm => by rw [h3 m hm, k3 m hm]⟩
  · exact ⟨j, by omega, by rw [h3 j hij]; exact k2, fun m hm => by rw [h3 m (by omega), k3 m hm]⟩

theorem Bef.ne {a b : ByteArray} (h : Bef a b) : a ≠ b := by
  rintro rfl
  obtain ⟨i, _, h2, _⟩ := h
  exact absurd h2 (by simp)

end Go.Cx

/-
  CxNf: (*Dag).Tipset (96) of a key that is not the root's name, over a dag of the genesis block alone: the runs, and what they need.
-/

namespace Go.Cx
open Go.Proofs
set_option maxRecDepth 1000000
set_option maxHeartbeats 4000000

def rootB : List UInt8 := [23, 31, 77, 167, 223, 103, 160, 51, 9, 225, 9, 154, 53, 203, 198, 114, 108, 180, 182, 72, 156, 63, 47, 91, 60, 196, 43, 7, 158, 51, 82, 135]
def genL : List Value := [.int .i64 0, .int .i64 0, .string ⟨#[]⟩, .int .i64 0, .int .u64 2, .slice none 0 0, .int .i64 0]

/-- The dag's blocks that are looked at. -/
def dagPart : List (Nat × Ob) := [(1058, row [.map (some 1056), .map (some 1057)] 205 false), (1056, .map #[{ key := idV, val := .agg (rootB.map byteV ++ genL).toArray, born := 0 }] 1)]

def idB (q : ByteArray) (i : Nat) : List UInt8 := (q.data.toList.drop (32 * i)).take 32

def nmQ (q : ByteArray) (b : Nat) : Option Value :=
  match Nat.ble 60 b && Nat.ble b 64 with
  | true => some (.string (q.extract (32 * (b - 60)) q.size))
  | false => match Nat.ble 100 b && Nat.ble b 259 with
    | true => some (byteV (q.data.toList.getD (b - 100) 0))
    | false => none

def namesOf32 (i : Nat) : List Value := (List.range 32).map fun t => .chan (some (100 + 32 * i + t))

/-- How the i-th name is written: that of the root by its bytes. -/
def rep (r : Option Nat) (i : Nat) : List Value :=
  match r with
  | some k => match Nat.beq k i with
    | true => rootB.map byteV
    | false => namesOf32 i
  | none => namesOf32 i

def findRep (j : Nat) (r : Option Nat) (l : List Value) : Option Nat := (List.range j).find? fun i => allTwo (veq 8) l (rep r i)

def notAt (r : Option Nat) (i : Nat) : Bool :=
  match r with
  | some k => !Nat.beq k i
  | none => true

def qParts (j : Nat) (r : Option Nat) (rise : Bool) (ord : Nat → Nat → Option Int) : Parts where
  text := fun b => match Nat.ble 60 b && Nat.blt b (60 + j) with
    | true => some ((List.range (j - (b - 60))).flatMap fun i => rep r (b - 60 + i))
    | false => none
  apart := fun kt k keys => match rise && Nat.beq kt 44 && allTwo (veq 8) keys [idV], k with
    | true, .agg a => match findRep j r a.toList with
      | some i => notAt r i
      | none => false
    | _, _ => false
  cmp := fun a b => match findRep j r a, findRep j r b with
    | some i, some k => ord i k
    | _, _ => none
  short := fun _ => false
  byte := fun _ => false
  join := fun _ => none
  same := fun t a b => match rise && Nat.beq t 44, a, b with
    | true, .agg x, .agg y => match findRep j r x.toList, findRep j r y.toList with
      | some i, some k => match Nat.beq i k with
        | true => none
        | false => some false
      | _, _ => none
    | _, _, _ => none

def lQ (j : Nat) : List Fact :=
  ⟨.len 9, [.chan (some 60)], .int .i64 (Int.ofNat (32 * j))⟩ ::
  ((List.range j).map (fun i => ⟨.bin .neq 9, [.chan (some (60 + i)), .string ⟨#[]⟩], .bool true⟩) ++
   (List.range j).map fun i => ⟨.sl 9 true false, [.chan (some (60 + i)), .int .i64 32], match Nat.beq (i + 1) j with | true => .string ⟨#[]⟩ | false => .chan (some (60 + (i + 1)))⟩)

/-- What a case says of a key. -/
structure QOk (q : ByteArray) (j : Nat) (r : Option Nat) (rise : Bool) (ord : Nat → Nat → Option Int) : Prop where
  size : q.size = 32 * j
  le : j ≤ 5
  root : ∀ k, r = some k → idB q k = rootB
  notroot : rise = true → ∀ i, i < j → r ≠ some i → idB q i ≠ rootB
  diff : rise = true → ∀ i k, i < j → k < j → i ≠ k → idB q i ≠ idB q k
  ord : ∀ i k c, i < j → k < j → ord i k = some c → Extern.BytealgCompare.cmp ⟨(idB q i).toArray⟩ ⟨(idB q k).toArray⟩ = c

theorem DenL.of_get {nm : Nat → Option Value} : ∀ {vs us : List Value}, vs.length = us.length → (∀ (t : Nat) v u, vs[t]? = some v → us[t]? = some u → Den nm v u) → DenL nm vs us
  | [], [], _, _ => .nil
  | [], _ :: _, h, _ => by simp at h
  | _ :: _, [], h, _ => by simp at h
  | v :: vs, u :: us, h, g => .cons (g 0 v u rfl rfl) (DenL.of_get (by simpa using h) fun t a b ha hb => g (t + 1) a b (by simpa using ha) (by simpa using hb))

theorem DenL.append {nm : Nat → Option Value} {vs us ws xs : List Value} (h : DenL nm vs us) (k : DenL nm ws xs) : DenL nm (vs ++ ws) (us ++ xs) := by
  induction h with
  | nil => exact k
  | cons h _ ih => exact .cons h ih

theorem DenL.len {nm : Nat → Option Value} {vs us : List Value} (h : DenL nm vs us) : vs.length = us.length := by
  induction h with
  | nil => rfl
  | cons _ _ ih => simp [ih]

theorem empty_of_size {s : ByteArray} (h : s.size = 0) : s = ⟨#[]⟩ := by
  obtain ⟨a⟩ := s
  congr 1
  exact Array.size_eq_zero_iff.1 h

theorem ble_yes {a b : Nat} (h : a ≤ b) : Nat.ble a b = true := by rw [Nat.ble_eq]; exact h
theorem ble_no {a b : Nat} (h : ¬ a ≤ b) : Nat.ble a b = false := by
  cases hb : Nat.ble a b with
  | false => rfl
  | true => rw [Nat.ble_eq] at hb; exact absurd hb h

theorem nmQ_text (q : ByteArray) {i : Nat} (h : i ≤ 4) : nmQ q (60 + i) = some (.string (q.extract (32 * i) q.size)) := by
  unfold nmQ
  rw [ble_yes (by omega), ble_yes (by omega), Nat.add_sub_cancel_left]
  rfl

theorem nmQ_byte (q : ByteArray) {n : Nat} (h : n < 160) : nmQ q (100 + n) = some (byteV (q.data.toList.getD n 0)) := by
  unfold nmQ
  rw [ble_no (a := 100 + n) (b := 64) (by omega), ble_yes (a := 100) (by omega), ble_yes (b := 259) (by omega), Nat.add_sub_cancel_left, Bool.and_false]
  rfl

theorem nmQ_range (q : ByteArray) : ∀ b v, nmQ q b = some v → 60 ≤ b ∧ b ≤ 259 := by
  intro b v h
  by_cases h1 : 60 ≤ b ∧ b ≤ 259
  · exact h1
  · exfalso
    unfold nmQ at h
    have e1 : (Nat.ble 60 b && Nat.ble b 64) = false := by
      cases h2 : (Nat.ble 60 b && Nat.ble b 64) with
      | false => rfl
      | true =>
        simp only [Bool.and_eq_true, Nat.ble_eq] at h2
        omega
    have e2 : (Nat.ble 100 b && Nat.ble b 259) = false := by
      cases h2 : (Nat.ble 100 b && Nat.ble b 259) with
      | false => rfl
      | true =>
        simp only [Bool.and_eq_true, Nat.ble_eq] at h2
        omega
    rw [e1, e2] at h
    cases h

section
variable {q : ByteArray} {j : Nat} {r : Option Nat} {rise : Bool} {ord : Nat → Nat → Option Int}

theorem idB_len (h : q.size = 32 * j) {i : Nat} (hi : i < j) : (idB q i).length = 32 := by
  unfold idB
  have : q.data.toList.length = 32 * j := by rw [← h]; simp
  simp only [List.length_take, List.length_drop, this]
  omega

theorem names_den (h : q.size = 32 * j) (hj : j ≤ 5) {i : Nat} (hi : i < j) : DenL (nmQ q) (namesOf32 i) ((idB q i).map byteV) := by
  refine DenL.of_get (by simp [namesOf32, idB_len h hi]) fun t v u hv hu => ?_
  have ht : t < 32 := by
    have := (List.getElem?_eq_some_iff.1 hv).1
    simpa [namesOf32] using this
  have e1 : v = .chan (some (100 + 32 * i + t)) := by
    simp [namesOf32, ht] at hv
    exact hv.symm
  have hl : q.data.toList.length = 32 * j := by rw [← h]; simp
  have e2 : u = byteV (q.data.toList.getD (32 * i + t) 0) := by
    simp only [idB, List.getElem?_map, List.getElem?_take, ht, if_true, List.getElem?_drop] at hu
    rw [List.getD_eq_getElem?_getD]
    obtain ⟨c, hc, rfl⟩ := Option.map_eq_some_iff.1 hu
    rw [hc]; rfl
  subst e1 e2
  have : 100 + 32 * i + t = 100 + (32 * i + t) := by omega
  rw [this]
  exact .inl ⟨_, rfl, nmQ_byte q (by omega)⟩

theorem rep_den (h : QOk q j r rise ord) {i : Nat} (hi : i < j) : DenL (nmQ q) (rep r i) ((idB q i).map byteV) := by
  unfold rep
  split
  · rename_i k
    split
    · rename_i hk
      have hk : k = i := by simpa using hk
      subst hk
      rw [h.root k rfl]
      exact DenL.of_get rfl fun t v u hv hu => by
        rw [hv] at hu; cases hu
        obtain ⟨c, _, rfl⟩ := List.mem_map.1 (List.mem_of_getElem? hv)
        exact .inr ⟨rfl, rfl⟩
    · exact names_den h.size h.le hi
  · exact names_den h.size h.le hi

theorem findRep_ok {l : List Value} {i : Nat} (h : findRep j r l = some i) : i < j ∧ l = rep r i := by
  unfold findRep at h
  have h1 := List.find?_some h
  have h2 := List.mem_of_find?_eq_some h
  exact ⟨List.mem_range.1 h2, allTwo_eq (fun a b => veq_eq 8 a b) h1⟩

theorem chunks_all : ∀ (n : Nat) (l : List UInt8), l.length = 32 * n → (List.range n).flatMap (fun i => (l.drop (32 * i)).take 32) = l
  | 0, l, h => by
    have : l = [] := List.length_eq_zero_iff.1 (by rw [h])
    rw [this]; rfl
  | n + 1, l, h => by
    rw [List.range_succ_eq_map, List.flatMap_cons, List.flatMap_map]
    have e : (List.range n).flatMap (fun i => (l.drop (32 * (i + 1))).take 32) = l.drop 32 := by
      have := chunks_all n (l.drop 32) (by rw [List.length_drop, h]; omega)
      simp only [List.drop_drop] at this
      have e2 : (fun i => List.take 32 (List.drop (32 + 32 * i) l)) = fun i => (l.drop (32 * (i + 1))).take 32 := by
        funext i
        congr 2
        omega
      rw [e2] at this
      exact this
    show (l.drop (32 * 0)).take 32 ++ (List.range n).flatMap (fun i => (l.drop (32 * (i + 1))).take 32) = l
    rw [e, Nat.mul_zero, List.drop_zero, List.take_append_drop]

theorem flat_den (h : QOk q j r rise ord) (m : Nat) : ∀ (l : List Nat), (∀ i ∈ l, m + i < j) → DenL (nmQ q) (l.flatMap fun i => rep r (m + i)) ((l.flatMap fun i => idB q (m + i)).map byteV)
  | [], _ => .nil
  | i :: l, hl => by
    rw [List.flatMap_cons, List.flatMap_cons, List.map_append]
    exact (rep_den h (hl i (by simp))).append (flat_den h m l fun k hk => hl k (by simp [hk]))

theorem idV_eq : idV = .agg (rootB.map byteV).toArray := rfl
theorem guard44 : Tryz.prog.eqGuardType Tryz.prog.depth 44 = false := by kernel_rfl

theorem extract_toList (s : ByteArray) (a : Nat) : (s.extract a s.size).data.toList = s.data.toList.drop a := by
  rw [ByteArray.data_extract, Array.toList_extract]
  have h : s.size = s.data.toList.length := by rw [Array.length_toList]; rfl
  rw [h, List.extract_eq_take_drop, ← List.length_drop, List.take_length]

theorem qParts_ok (h : QOk q j r rise ord) : PartsOk Tryz.prog (nmQ q) (qParts j r rise ord) where
  text := fun b cs hb => by
    simp only [qParts] at hb
    split at hb
    · rename_i hc
      cases hb
      simp only [Bool.and_eq_true, Nat.ble_eq] at hc
      have hc2 := hc.2
      rw [Nat.blt_eq] at hc2
      obtain ⟨m, rfl⟩ : ∃ m, b = 60 + m := ⟨b - 60, by omega⟩
      have hm : m < j := by omega
      have hle := h.le
      rw [Nat.add_sub_cancel_left]
      refine ⟨q.extract (32 * m) q.size, _, nmQ_text q (by omega), flat_den h m (List.range (j - m)) (fun i hi => by have h9 := List.mem_range.1 hi; omega), ?_⟩
      rw [extract_toList]
      congr 1
      have hl : q.data.toList.length = 32 * j := by rw [← h.size]; simp
      have := chunks_all (j - m) (q.data.toList.drop (32 * m)) (by rw [List.length_drop, hl]; omega)
      rw [← this]
      congr 1
      funext i
      unfold idB
      rw [List.drop_drop]
      congr 2
      omega
    · cases hb
  apart := fun {ι} hn {kt k k' keys} hb hk => by
    simp only [qParts] at hb
    split at hb
    · rename_i a hc
      simp only [Bool.and_eq_true] at hc
      obtain ⟨⟨hrise, hkt⟩, hkeys⟩ := hc
      have hkt : kt = 44 := by simpa using hkt
      have hkeys := allTwo_eq (fun a b => veq_eq 8 a b) hkeys
      subst hkt hkeys
      split at hb
      · rename_i i hi
        obtain ⟨h1, h2⟩ := findRep_ok hi
        cases hk with
        | @agg _ xs' hx h3 =>
        have h4 := LRel.of_array hx h3
        rw [h2] at h4
        have h5 := (rep_den h h1).eq hn h4
        have h6 : xs' = ((idB q i).map byteV).toArray := by apply Array.toList_inj.1; simpa using h5
        subst h6
        have hne : r ≠ some i := by
          intro e
          subst e
          simp [notAt] at hb
        have hlen := idB_len h.size h1
        refine ⟨fun e => check44 e _ hlen, fun es hes => key44 hlen fun e he => ⟨rootB, ?_, rfl, h.notroot hrise i h1 hne⟩⟩
        have : e.key ∈ es.map (·.key) := List.mem_map_of_mem he
        rw [hes] at this
        rw [← idV_eq]
        simpa using this
      · cases hb
    · cases hb
  cmp := fun {ι} hn {a b a' b' c} hb h1 h2 => by
    simp only [qParts] at hb
    split at hb
    · rename_i i k hi hk
      obtain ⟨g1, g2⟩ := findRep_ok hi
      obtain ⟨g3, g4⟩ := findRep_ok hk
      rw [g2] at h1
      rw [g4] at h2
      exact ⟨idB q i, idB q k, (rep_den h g1).eq hn h1, (rep_den h g3).eq hn h2, h.ord i k c g1 g3 hb⟩
    · cases hb
  short := fun _ h => (by cases h)
  byte := fun _ h => (by cases h)
  join := fun _ _ _ _ h => (by cases h)
  same := fun {ι} hn {t a b a' b' s} hb h1 h2 => by
    simp only [qParts] at hb
    split at hb
    · rename_i x y hc
      simp only [Bool.and_eq_true] at hc
      obtain ⟨hrise, ht⟩ := hc
      have ht : t = 44 := by simpa using ht
      subst ht
      split at hb
      · rename_i i k hi hk
        split at hb
        · cases hb
        · rename_i hik
          cases hb
          have hik : i ≠ k := by intro e; subst e; simp at hik
          obtain ⟨g1, g2⟩ := findRep_ok hi
          obtain ⟨g3, g4⟩ := findRep_ok hk
          cases h1 with
          | @agg _ xs' hx h3 =>
          cases h2 with
          | @agg _ ys' hy h4 =>
          have q1 := LRel.of_array hx h3
          have q2 := LRel.of_array hy h4
          rw [g2] at q1
          rw [g4] at q2
          have e1 : xs' = ((idB q i).map byteV).toArray := by apply Array.toList_inj.1; simpa using (rep_den h g1).eq hn q1
          have e2 : ys' = ((idB q k).map byteV).toArray := by apply Array.toList_inj.1; simpa using (rep_den h g3).eq hn q2
          subst e1 e2
          refine ⟨⟨_, _, rfl, rfl⟩, guard44, ?_⟩
          rw [eq44 _ _ (idB_len h.size g1) (idB_len h.size g3)]
          simp [h.diff hrise i k g1 g3 hik]
      · cases hb
    · cases hb

theorem lQ_ok (h : QOk q j r rise ord) (h0 : 0 < j) : ∀ x ∈ lQ j, FactOk Tryz.prog (nmQ q) x := by
  have hle := h.le
  have hsz := h.size
  intro x hx
  unfold lQ at hx
  rcases List.mem_cons.1 hx with rfl | hx
  · refine fact_len (s := q.extract (32 * 0) q.size) (.inl ⟨60, rfl, nmQ_text q (i := 0) (by omega)⟩) (.inr ⟨rfl, ?_⟩)
    have : (q.extract (32 * 0) q.size).size = 32 * j := by rw [ByteArray.size_extract]; omega
    rw [this]; rfl
  · rcases List.mem_append.1 hx with hx | hx
    · obtain ⟨i, hi, rfl⟩ := List.mem_map.1 hx
      have hi : i < j := by simpa using hi
      refine fact_ne (s := q.extract (32 * i) q.size) (t := ⟨#[]⟩) (.inl ⟨_, rfl, nmQ_text q (by omega)⟩) (.inr ⟨rfl, rfl⟩) ?_
      rw [ByteArray.toList_eq, ByteArray.toList_eq, extract_toList]
      have hl : q.data.toList.length = 32 * j := by rw [← hsz]; simp
      have : q.data.toList.drop (32 * i) ≠ [] := fun e => by
        have := congrArg List.length e
        rw [List.length_drop, hl] at this
        simp at this
        omega
      cases hd : q.data.toList.drop (32 * i) with
      | nil => exact absurd hd this
      | cons a l => rfl
    · obtain ⟨i, hi, rfl⟩ := List.mem_map.1 hx
      have hi : i < j := by simpa using hi
      have hes : (q.extract (32 * i) q.size).size = 32 * j - 32 * i := by rw [ByteArray.size_extract]; omega
      have hext : (q.extract (32 * i) q.size).extract 32 (q.extract (32 * i) q.size).size = q.extract (32 * (i + 1)) q.size := by
        rw [hes, ByteArray.extract_extract]
        congr 1 <;> omega
      refine fact_sl_lo (s := q.extract (32 * i) q.size) (t := q.extract (32 * (i + 1)) q.size) (i := 32) (.inl ⟨_, rfl, nmQ_text q (by omega)⟩) (.inr ⟨rfl, rfl⟩) (by rw [hes]; omega) ?_ hext
      split
      · rename_i hb
        have hb : i + 1 = j := by simpa using hb
        refine .inr ⟨rfl, ?_⟩
        have : (q.extract (32 * (i + 1)) q.size).size = 0 := by rw [ByteArray.size_extract]; omega
        rw [empty_of_size this]
      · rename_i hb
        have hb : i + 1 ≠ j := by intro e; subst e; simp at hb
        exact .inl ⟨_, rfl, nmQ_text q (by omega)⟩
end

/-! ### The runs -/
def ordRise (i k : Nat) : Option Int :=
  match Nat.blt i k with
  | true => some (-1)
  | false => match Nat.blt k i with
    | true => some 1
    | false => none

def ordFail (p : Nat) (c : Int) (i k : Nat) : Option Int :=
  match Nat.beq k (i + 1) with
  | true => match Nat.blt k p with
    | true => some (-1)
    | false => match Nat.beq k p with
      | true => some c
      | false => none
  | false => none

def keyArgs : List Value := [.pointer (some ⟨1058, 0, none⟩), .chan (some 60)]
def errV (e : Int) : Value := .tuple #[.agg #[.slice none 0 0], .int .i64 e]

noncomputable def runQ (nm : Nat → Option Value) (j : Nat) (r : Option Nat) (rise : Bool) (ord : Nat → Nat → Option Int) : Option Value :=
  seen dagPart ((@go Tryz.prog (mkTab Tryz.prog nm (lQ j) (qParts j r rise ord)) (told []) 100000).call 96 keyArgs (hpOf 1062 dagPart))

def isSome (v : Value) : Option Value → Bool
  | some u => veq 8 u v
  | none => false

theorem isSome_ok {v : Value} {r : Option Value} (h : isSome v r = true) : r = some v := by
  unfold isSome at h
  split at h
  · rename_i u
    rw [veq_eq 8 _ _ h]
  · cases h

end Go.Cx
