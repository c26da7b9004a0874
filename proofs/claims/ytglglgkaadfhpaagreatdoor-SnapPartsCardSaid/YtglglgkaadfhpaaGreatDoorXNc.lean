/-
  CxNc: snap.Bytes of parts without blocks, orphans, certificates. Printed by tools/genBytes.py.
-/
import Derived.Test.YtglglgkaadfhpaaGreatDoorXNa
set_option linter.all false
namespace Go.Cx
open Go.Proofs
set_option maxRecDepth 1000000

def digits : Nat → Nat → List UInt8
  | 0, _ => []
  | k + 1, x => digits k (x / 256) ++ [UInt8.ofNat (x % 256)]

def cnt (x : Nat) : Nat := if x = 0 then 0 else if x < 256 then 1 else if x < 65536 then 2 else if x < 16777216 then 3 else 4

/-- A number's bytes. -/
def numB (x : Nat) : List UInt8 := UInt8.ofNat (cnt x) :: digits (cnt x) x

def textL (x : Nat) (m h : ByteArray) : List UInt8 := numB x ++ (numB m.size ++ (m.data.toList ++ (numB h.size ++ (h.data.toList ++ [0, 0, 0, 0, 0]))))
def textS (x : Nat) (m h : ByteArray) : ByteArray := ⟨(textL x m h).toArray⟩

def partsV (a m h : Value) : Value := .agg #[a, m, h, .slice none 0 0, .slice none 0 0, .slice none 0 0, .slice none 0 0, .slice none 0 0]

def I (n : Nat) : Value := .int .i64 (Int.ofNat n)

def sh8 : Nat → Nat → Nat
  | 0, x => x
  | i + 1, x => sh8 i x / 256

def nmB (x : Nat) (m h : ByteArray) : List (Nat × Value) :=
  [(12, I x), (20, .string (textS x m h)), (100, I (sh8 0 x)), (101, I (sh8 1 x)), (102, I (sh8 2 x)), (103, I (sh8 3 x)), (104, I (sh8 4 x)),
   (110, byteV (UInt8.ofNat (sh8 0 x % 256))), (111, byteV (UInt8.ofNat (sh8 1 x % 256))), (112, byteV (UInt8.ofNat (sh8 2 x % 256))), (113, byteV (UInt8.ofNat (sh8 3 x % 256))),
   (30, .string m), (31, I m.size), (32, byteV (UInt8.ofNat (m.size % 256))), (40, .string h), (41, I h.size), (42, byteV (UInt8.ofNat (h.size % 256)))]

theorem under35 : Tryz.prog.underlying 3 = some (.int .i64) ∧ Tryz.prog.underlying 5 = some (.int .u8) := ⟨under3, under5⟩

theorem fact_cv35 {nm : Nat → Option Value} {x r : Value} {n : Nat} (hx : Den nm x (I n)) (hr : Den nm r (byteV (UInt8.ofNat (n % 256)))) : FactOk Tryz.prog nm ⟨.cv 3 5, [x], r⟩ :=
  ⟨_, _, .cons hx .nil, rfl, hr, rfl, by
    show prun Tryz.prog (Go.convert 3 5 (.int .i64 (Int.ofNat n))) = _
    unfold Go.convert
    simp only [prun_bind, prun_underlying, under5, under3, Option.bind_some]
    show some (Value.int .u8 (IntKind.u8.wrap (Int.ofNat n))) = _
    have : IntKind.u8.wrap (Int.ofNat n) = ((UInt8.ofNat (n % 256)).toNat : Int) := by
      simp [IntKind.wrap, IntKind.bits, IntKind.signed]
    rw [this]
    rfl⟩

theorem shr8 (n : Nat) (i : Nat) (h : i ≤ 64) : shiftInt .shr .i64 (Int.ofNat n) (Int.ofNat i) = some (I (n / 2 ^ i)) := by
  have : shiftInt .shr .i64 (Int.ofNat n) (Int.ofNat i) = some (.int .i64 (Int.ofNat (n / 2 ^ (min i 64)))) := rfl
  rw [this, Nat.min_eq_left h]
  rfl

theorem sh8_eq : ∀ (i x : Nat), sh8 i x = x / 2 ^ (8 * i)
  | 0, x => by simp [sh8]
  | i + 1, x => by
    have e : 8 * (i + 1) = 8 * i + 8 := by omega
    rw [sh8, sh8_eq i, Nat.div_div_eq_div_mul, e, Nat.pow_add]

theorem IsBytes.str {s : ByteArray} {b : List UInt8} (h : IsBytes (.string s) b) : b = s.data.toList := by cases h; rfl
theorem byteV_inj {a b : UInt8} (h : byteV a = byteV b) : a = b := by
  unfold byteV at h
  injection h with _ h
  have : a.toNat = b.toNat := by exact_mod_cast h
  exact UInt8.toNat_inj.1 this
theorem IsBytes.one {c : UInt8} {b : List UInt8} (h : IsBytes (byteV c) b) : b = [c] := by
  generalize hq : byteV c = v at h
  cases h with
  | text s => cases hq
  | byte c' => rw [byteV_inj hq]

theorem cden_str {nm : Nat → Option Value} {ι : Emb} (hn : ∀ b v, nm b = some v → ι b = .val v) {v : Value} {s : ByteArray} {l : List Value} {bs : List UInt8} (hv : Den nm v (.string s)) (h : CDen ι (v :: l) bs) : ∃ cs, CDen ι l cs ∧ bs = s.data.toList ++ cs := by
  cases h with
  | cons hx hb _ t =>
    have := hv.eq hn hx
    subst this
    exact ⟨_, t, by rw [hb.str]⟩

theorem cden_byte {nm : Nat → Option Value} {ι : Emb} (hn : ∀ b v, nm b = some v → ι b = .val v) {v : Value} {c : UInt8} {l : List Value} {bs : List UInt8} (hv : Den nm v (byteV c)) (h : CDen ι (v :: l) bs) : ∃ cs, CDen ι l cs ∧ bs = c :: cs := by
  cases h with
  | cons hx hb _ t =>
    have := hv.eq hn hx
    subst this
    exact ⟨_, t, by rw [hb.one]; rfl⟩

theorem cden_nil {ι : Emb} {bs : List UInt8} (h : CDen ι [] bs) : bs = [] := by cases h; rfl


theorem max0 (n : Nat) : (if (0 : Int) > Int.ofNat n then (0 : Int) else Int.ofNat n) = Int.ofNat n := by
  have h := Int.natCast_nonneg n
  have : ¬ ((0 : Int) > Int.ofNat n) := Int.not_lt.2 h
  rw [if_neg this]

theorem gtr0 {n : Nat} (h : 0 < n) : binInt .gtr .i64 (Int.ofNat n) 0 = some (.bool true) := by
  have : binInt .gtr .i64 (Int.ofNat n) 0 = some (.bool (decide (Int.ofNat n > 0))) := rfl
  rw [this, decide_eq_true (by simpa using h)]

theorem ngtr0 {n : Nat} (h : n = 0) : binInt .gtr .i64 (Int.ofNat n) 0 = some (.bool false) := by
  subst h; rfl

def lC0 : List Fact := [⟨.mx, [.chan (some 12), .int .i64 0], .chan (some 100)⟩, ⟨.bin .gtr 3, [.chan (some 100), .int .i64 0], .bool false⟩]

theorem lC0_ok (x : Nat) (m h : ByteArray) (hx : x = 0) : ∀ y ∈ lC0, FactOk Tryz.prog (nmOf (nmB x m h)) y := by
  intro y hy
  unfold lC0 at hy
  simp only [List.mem_cons, List.not_mem_nil, or_false] at hy
  rcases hy with rfl | rfl
  · exact fact_max (.inl ⟨12, rfl, rfl⟩) (.inr ⟨rfl, rfl⟩) (.inl ⟨100, rfl, rfl⟩) (max0 x)
  · exact fact_ii (.inl ⟨100, rfl, rfl⟩) (.inr ⟨rfl, rfl⟩) (.inr ⟨rfl, rfl⟩) ⟨by decide, by decide⟩ (ngtr0 (by simp only [sh8]; omega)) rfl

def lC1 : List Fact := [⟨.mx, [.chan (some 12), .int .i64 0], .chan (some 100)⟩, ⟨.bin .gtr 3, [.chan (some 100), .int .i64 0], .bool true⟩, ⟨.bin .gtr 3, [.chan (some 101), .int .i64 0], .bool false⟩, ⟨.bin .shr 3, [.chan (some 100), .int .u64 8], .chan (some 101)⟩, ⟨.bin .shr 3, [.chan (some 100), .int .i64 0], .chan (some 100)⟩, ⟨.cv 3 5, [.chan (some 100)], .chan (some 110)⟩]

theorem lC1_ok (x : Nat) (m h : ByteArray) (h1 : 1 ≤ x) (h2 : x < 256) : ∀ y ∈ lC1, FactOk Tryz.prog (nmOf (nmB x m h)) y := by
  intro y hy
  unfold lC1 at hy
  simp only [List.mem_cons, List.not_mem_nil, or_false] at hy
  rcases hy with rfl | rfl | rfl | rfl | rfl | rfl
  · exact fact_max (.inl ⟨12, rfl, rfl⟩) (.inr ⟨rfl, rfl⟩) (.inl ⟨100, rfl, rfl⟩) (max0 x)
  · exact fact_ii (.inl ⟨100, rfl, rfl⟩) (.inr ⟨rfl, rfl⟩) (.inr ⟨rfl, rfl⟩) ⟨by decide, by decide⟩ (gtr0 (by simp only [sh8]; omega)) rfl
  · exact fact_ii (.inl ⟨101, rfl, rfl⟩) (.inr ⟨rfl, rfl⟩) (.inr ⟨rfl, rfl⟩) ⟨by decide, by decide⟩ (ngtr0 (by simp only [sh8]; omega)) rfl
  · exact fact_sh (.inl ⟨100, rfl, rfl⟩) (.inr ⟨rfl, rfl⟩) (.inl ⟨101, rfl, rfl⟩) (shr8 _ 8 (by decide)) rfl
  · exact fact_sh (.inl ⟨100, rfl, rfl⟩) (.inr ⟨rfl, rfl⟩) (.inl ⟨100, rfl, by show some (I (sh8 0 x)) = some (I (x / 2 ^ 0)); rw [sh8_eq]⟩) (shr8 _ 0 (by decide)) rfl
  · exact fact_cv35 (.inl ⟨100, rfl, rfl⟩) (.inl ⟨110, rfl, rfl⟩)

def lC2 : List Fact := [⟨.mx, [.chan (some 12), .int .i64 0], .chan (some 100)⟩, ⟨.bin .gtr 3, [.chan (some 100), .int .i64 0], .bool true⟩, ⟨.bin .gtr 3, [.chan (some 101), .int .i64 0], .bool true⟩, ⟨.bin .gtr 3, [.chan (some 102), .int .i64 0], .bool false⟩, ⟨.bin .shr 3, [.chan (some 100), .int .u64 8], .chan (some 101)⟩, ⟨.bin .shr 3, [.chan (some 101), .int .u64 8], .chan (some 102)⟩, ⟨.bin .shr 3, [.chan (some 100), .int .i64 0], .chan (some 100)⟩, ⟨.bin .shr 3, [.chan (some 100), .int .i64 8], .chan (some 101)⟩, ⟨.cv 3 5, [.chan (some 100)], .chan (some 110)⟩, ⟨.cv 3 5, [.chan (some 101)], .chan (some 111)⟩]

theorem lC2_ok (x : Nat) (m h : ByteArray) (h1 : 256 ≤ x) (h2 : x < 65536) : ∀ y ∈ lC2, FactOk Tryz.prog (nmOf (nmB x m h)) y := by
  intro y hy
  unfold lC2 at hy
  simp only [List.mem_cons, List.not_mem_nil, or_false] at hy
  rcases hy with rfl | rfl | rfl | rfl | rfl | rfl | rfl | rfl | rfl | rfl
  · exact fact_max (.inl ⟨12, rfl, rfl⟩) (.inr ⟨rfl, rfl⟩) (.inl ⟨100, rfl, rfl⟩) (max0 x)
  · exact fact_ii (.inl ⟨100, rfl, rfl⟩) (.inr ⟨rfl, rfl⟩) (.inr ⟨rfl, rfl⟩) ⟨by decide, by decide⟩ (gtr0 (by simp only [sh8]; omega)) rfl
  · exact fact_ii (.inl ⟨101, rfl, rfl⟩) (.inr ⟨rfl, rfl⟩) (.inr ⟨rfl, rfl⟩) ⟨by decide, by decide⟩ (gtr0 (by simp only [sh8]; omega)) rfl
  · exact fact_ii (.inl ⟨102, rfl, rfl⟩) (.inr ⟨rfl, rfl⟩) (.inr ⟨rfl, rfl⟩) ⟨by decide, by decide⟩ (ngtr0 (by simp only [sh8]; omega)) rfl
  · exact fact_sh (.inl ⟨100, rfl, rfl⟩) (.inr ⟨rfl, rfl⟩) (.inl ⟨101, rfl, rfl⟩) (shr8 _ 8 (by decide)) rfl
  · exact fact_sh (.inl ⟨101, rfl, rfl⟩) (.inr ⟨rfl, rfl⟩) (.inl ⟨102, rfl, rfl⟩) (shr8 _ 8 (by decide)) rfl
  · exact fact_sh (.inl ⟨100, rfl, rfl⟩) (.inr ⟨rfl, rfl⟩) (.inl ⟨100, rfl, by show some (I (sh8 0 x)) = some (I (x / 2 ^ 0)); rw [sh8_eq]⟩) (shr8 _ 0 (by decide)) rfl
  · exact fact_sh (.inl ⟨100, rfl, rfl⟩) (.inr ⟨rfl, rfl⟩) (.inl ⟨101, rfl, by show some (I (sh8 1 x)) = some (I (x / 2 ^ 8)); rw [sh8_eq]⟩) (shr8 _ 8 (by decide)) rfl
  · exact fact_cv35 (.inl ⟨100, rfl, rfl⟩) (.inl ⟨110, rfl, rfl⟩)
  · exact fact_cv35 (.inl ⟨101, rfl, rfl⟩) (.inl ⟨111, rfl, rfl⟩)

def lC3 : List Fact := [⟨.mx, [.chan (some 12), .int .i64 0], .chan (some 100)⟩, ⟨.bin .gtr 3, [.chan (some 100), .int .i64 0], .bool true⟩, ⟨.bin .gtr 3, [.chan (some 101), .int .i64 0], .bool true⟩, ⟨.bin .gtr 3, [.chan (some 102), .int .i64 0], .bool true⟩, ⟨.bin .gtr 3, [.chan (some 103), .int .i64 0], .bool false⟩, ⟨.bin .shr 3, [.chan (some 100), .int .u64 8], .chan (some 101)⟩, ⟨.bin .shr 3, [.chan (some 101), .int .u64 8], .chan (some 102)⟩, ⟨.bin .shr 3, [.chan (some 102), .int .u64 8], .chan (some 103)⟩, ⟨.bin .shr 3, [.chan (some 100), .int .i64 0], .chan (some 100)⟩, ⟨.bin .shr 3, [.chan (some 100), .int .i64 8], .chan (some 101)⟩, ⟨.bin .shr 3, [.chan (some 100), .int .i64 16], .chan (some 102)⟩, ⟨.cv 3 5, [.chan (some 100)], .chan (some 110)⟩, ⟨.cv 3 5, [.chan (some 101)], .chan (some 111)⟩, ⟨.cv 3 5, [.chan (some 102)], .chan (some 112)⟩]

theorem lC3_ok (x : Nat) (m h : ByteArray) (h1 : 65536 ≤ x) (h2 : x < 16777216) : ∀ y ∈ lC3, FactOk Tryz.prog (nmOf (nmB x m h)) y := by
  intro y hy
  unfold lC3 at hy
  simp only [List.mem_cons, List.not_mem_nil, or_false] at hy
  rcases hy with rfl | rfl | rfl | rfl | rfl | rfl | rfl | rfl | rfl | rfl | rfl | rfl | rfl | rfl
  · exact fact_max (.inl ⟨12, rfl, rfl⟩) (.inr ⟨rfl, rfl⟩) (.inl ⟨100, rfl, rfl⟩) (max0 x)
  · exact fact_ii (.inl ⟨100, rfl, rfl⟩) (.inr ⟨rfl, rfl⟩) (.inr ⟨rfl, rfl⟩) ⟨by decide, by decide⟩ (gtr0 (by simp only [sh8]; omega)) rfl
  · exact fact_ii (.inl ⟨101, rfl, rfl⟩) (.inr ⟨rfl, rfl⟩) (.inr ⟨rfl, rfl⟩) ⟨by decide, by decide⟩ (gtr0 (by simp only [sh8]; omega)) rfl
  · exact fact_ii (.inl ⟨102, rfl, rfl⟩) (.inr ⟨rfl, rfl⟩) (.inr ⟨rfl, rfl⟩) ⟨by decide, by decide⟩ (gtr0 (by simp only [sh8]; omega)) rfl
  · exact fact_ii (.inl ⟨103, rfl, rfl⟩) (.inr ⟨rfl, rfl⟩) (.inr ⟨rfl, rfl⟩) ⟨by decide, by decide⟩ (ngtr0 (by simp only [sh8]; omega)) rfl
  · exact fact_sh (.inl ⟨100, rfl, rfl⟩) (.inr ⟨rfl, rfl⟩) (.inl ⟨101, rfl, rfl⟩) (shr8 _ 8 (by decide)) rfl
  · exact fact_sh (.inl ⟨101, rfl, rfl⟩) (.inr ⟨rfl, rfl⟩) (.inl ⟨102, rfl, rfl⟩) (shr8 _ 8 (by decide)) rfl
  · exact fact_sh (.inl ⟨102, rfl, rfl⟩) (.inr ⟨rfl, rfl⟩) (.inl ⟨103, rfl, rfl⟩) (shr8 _ 8 (by decide)) rfl
  · exact fact_sh (.inl ⟨100, rfl, rfl⟩) (.inr ⟨rfl, rfl⟩) (.inl ⟨100, rfl, by show some (I (sh8 0 x)) = some (I (x / 2 ^ 0)); rw [sh8_eq]⟩) (shr8 _ 0 (by decide)) rfl
  · exact fact_sh (.inl ⟨100, rfl, rfl⟩) (.inr ⟨rfl, rfl⟩) (.inl ⟨101, rfl, by show some (I (sh8 1 x)) = some (I (x / 2 ^ 8)); rw [sh8_eq]⟩) (shr8 _ 8 (by decide)) rfl
  · exact fact_sh (.inl ⟨100, rfl, rfl⟩) (.inr ⟨rfl, rfl⟩) (.inl ⟨102, rfl, by show some (I (sh8 2 x)) = some (I (x / 2 ^ 16)); rw [sh8_eq]⟩) (shr8 _ 16 (by decide)) rfl
  · exact fact_cv35 (.inl ⟨100, rfl, rfl⟩) (.inl ⟨110, rfl, rfl⟩)
  · exact fact_cv35 (.inl ⟨101, rfl, rfl⟩) (.inl ⟨111, rfl, rfl⟩)
  · exact fact_cv35 (.inl ⟨102, rfl, rfl⟩) (.inl ⟨112, rfl, rfl⟩)

def lC4 : List Fact := [⟨.mx, [.chan (some 12), .int .i64 0], .chan (some 100)⟩, ⟨.bin .gtr 3, [.chan (some 100), .int .i64 0], .bool true⟩, ⟨.bin .gtr 3, [.chan (some 101), .int .i64 0], .bool true⟩, ⟨.bin .gtr 3, [.chan (some 102), .int .i64 0], .bool true⟩, ⟨.bin .gtr 3, [.chan (some 103), .int .i64 0], .bool true⟩, ⟨.bin .gtr 3, [.chan (some 104), .int .i64 0], .bool false⟩, ⟨.bin .shr 3, [.chan (some 100), .int .u64 8], .chan (some 101)⟩, ⟨.bin .shr 3, [.chan (some 101), .int .u64 8], .chan (some 102)⟩, ⟨.bin .shr 3, [.chan (some 102), .int .u64 8], .chan (some 103)⟩, ⟨.bin .shr 3, [.chan (some 103), .int .u64 8], .chan (some 104)⟩, ⟨.bin .shr 3, [.chan (some 100), .int .i64 0], .chan (some 100)⟩, ⟨.bin .shr 3, [.chan (some 100), .int .i64 8], .chan (some 101)⟩, ⟨.bin .shr 3, [.chan (some 100), .int .i64 16], .chan (some 102)⟩, ⟨.bin .shr 3, [.chan (some 100), .int .i64 24], .chan (some 103)⟩, ⟨.cv 3 5, [.chan (some 100)], .chan (some 110)⟩, ⟨.cv 3 5, [.chan (some 101)], .chan (some 111)⟩, ⟨.cv 3 5, [.chan (some 102)], .chan (some 112)⟩, ⟨.cv 3 5, [.chan (some 103)], .chan (some 113)⟩]

theorem lC4_ok (x : Nat) (m h : ByteArray) (h1 : 16777216 ≤ x) (h2 : x < 4294967296) : ∀ y ∈ lC4, FactOk Tryz.prog (nmOf (nmB x m h)) y := by
  intro y hy
  unfold lC4 at hy
  simp only [List.mem_cons, List.not_mem_nil, or_false] at hy
  rcases hy with rfl | rfl | rfl | rfl | rfl | rfl | rfl | rfl | rfl | rfl | rfl | rfl | rfl | rfl | rfl | rfl | rfl | rfl
  · exact fact_max (.inl ⟨12, rfl, rfl⟩) (.inr ⟨rfl, rfl⟩) (.inl ⟨100, rfl, rfl⟩) (max0 x)
  · exact fact_ii (.inl ⟨100, rfl, rfl⟩) (.inr ⟨rfl, rfl⟩) (.inr ⟨rfl, rfl⟩) ⟨by decide, by decide⟩ (gtr0 (by simp only [sh8]; omega)) rfl
  · exact fact_ii (.inl ⟨101, rfl, rfl⟩) (.inr ⟨rfl, rfl⟩) (.inr ⟨rfl, rfl⟩) ⟨by decide, by decide⟩ (gtr0 (by simp only [sh8]; omega)) rfl
  · exact fact_ii (.inl ⟨102, rfl, rfl⟩) (.inr ⟨rfl, rfl⟩) (.inr ⟨rfl, rfl⟩) ⟨by decide, by decide⟩ (gtr0 (by simp only [sh8]; omega)) rfl
  · exact fact_ii (.inl ⟨103, rfl, rfl⟩) (.inr ⟨rfl, rfl⟩) (.inr ⟨rfl, rfl⟩) ⟨by decide, by decide⟩ (gtr0 (by simp only [sh8]; omega)) rfl
  · exact fact_ii (.inl ⟨104, rfl, rfl⟩) (.inr ⟨rfl, rfl⟩) (.inr ⟨rfl, rfl⟩) ⟨by decide, by decide⟩ (ngtr0 (by simp only [sh8]; omega)) rfl
  · exact fact_sh (.inl ⟨100, rfl, rfl⟩) (.inr ⟨rfl, rfl⟩) (.inl ⟨101, rfl, rfl⟩) (shr8 _ 8 (by decide)) rfl
  · exact fact_sh (.inl ⟨101, rfl, rfl⟩) (.inr ⟨rfl, rfl⟩) (.inl ⟨102, rfl, rfl⟩) (shr8 _ 8 (by decide)) rfl
  · exact fact_sh (.inl ⟨102, rfl, rfl⟩) (.inr ⟨rfl, rfl⟩) (.inl ⟨103, rfl, rfl⟩) (shr8 _ 8 (by decide)) rfl
  · exact fact_sh (.inl ⟨103, rfl, rfl⟩) (.inr ⟨rfl, rfl⟩) (.inl ⟨104, rfl, rfl⟩) (shr8 _ 8 (by decide)) rfl
  · exact fact_sh (.inl ⟨100, rfl, rfl⟩) (.inr ⟨rfl, rfl⟩) (.inl ⟨100, rfl, by show some (I (sh8 0 x)) = some (I (x / 2 ^ 0)); rw [sh8_eq]⟩) (shr8 _ 0 (by decide)) rfl
  · exact fact_sh (.inl ⟨100, rfl, rfl⟩) (.inr ⟨rfl, rfl⟩) (.inl ⟨101, rfl, by show some (I (sh8 1 x)) = some (I (x / 2 ^ 8)); rw [sh8_eq]⟩) (shr8 _ 8 (by decide)) rfl
  · exact fact_sh (.inl ⟨100, rfl, rfl⟩) (.inr ⟨rfl, rfl⟩) (.inl ⟨102, rfl, by show some (I (sh8 2 x)) = some (I (x / 2 ^ 16)); rw [sh8_eq]⟩) (shr8 _ 16 (by decide)) rfl
  · exact fact_sh (.inl ⟨100, rfl, rfl⟩) (.inr ⟨rfl, rfl⟩) (.inl ⟨103, rfl, by show some (I (sh8 3 x)) = some (I (x / 2 ^ 24)); rw [sh8_eq]⟩) (shr8 _ 24 (by decide)) rfl
  · exact fact_cv35 (.inl ⟨100, rfl, rfl⟩) (.inl ⟨110, rfl, rfl⟩)
  · exact fact_cv35 (.inl ⟨101, rfl, rfl⟩) (.inl ⟨111, rfl, rfl⟩)
  · exact fact_cv35 (.inl ⟨102, rfl, rfl⟩) (.inl ⟨112, rfl, rfl⟩)
  · exact fact_cv35 (.inl ⟨103, rfl, rfl⟩) (.inl ⟨113, rfl, rfl⟩)

def lMB : List Fact := [⟨.len 9, [.chan (some 30)], .chan (some 31)⟩, ⟨.mx, [.chan (some 31), .int .i64 0], .chan (some 31)⟩, ⟨.bin .gtr 3, [.chan (some 31), .int .i64 0], .bool true⟩, ⟨.bin .shr 3, [.chan (some 31), .int .u64 8], .int .i64 0⟩, ⟨.bin .shr 3, [.chan (some 31), .int .i64 0], .chan (some 31)⟩, ⟨.cv 3 5, [.chan (some 31)], .chan (some 32)⟩]

theorem lMB_ok (x : Nat) (m h : ByteArray) (h0 : 0 < m.size) (h1 : m.size ≤ 160) : ∀ y ∈ lMB, FactOk Tryz.prog (nmOf (nmB x m h)) y := by
  intro y hy
  unfold lMB at hy
  simp only [List.mem_cons, List.not_mem_nil, or_false] at hy
  rcases hy with rfl | rfl | rfl | rfl | rfl | rfl
  · exact fact_len (.inl ⟨30, rfl, rfl⟩) (.inl ⟨31, rfl, rfl⟩)
  · exact fact_max (.inl ⟨31, rfl, rfl⟩) (.inr ⟨rfl, rfl⟩) (.inl ⟨31, rfl, rfl⟩) (max0 m.size)
  · exact fact_ii (.inl ⟨31, rfl, rfl⟩) (.inr ⟨rfl, rfl⟩) (.inr ⟨rfl, rfl⟩) ⟨by decide, by decide⟩ (gtr0 h0) rfl
  · exact fact_sh (.inl ⟨31, rfl, rfl⟩) (.inr ⟨rfl, rfl⟩) (.inr ⟨rfl, by rw [Nat.div_eq_of_lt (by omega : m.size < 2 ^ 8)]; rfl⟩) (shr8 _ 8 (by decide)) rfl
  · exact fact_sh (.inl ⟨31, rfl, rfl⟩) (.inr ⟨rfl, rfl⟩) (.inl ⟨31, rfl, by rw [Nat.pow_zero, Nat.div_one]; rfl⟩) (shr8 _ 0 (by decide)) rfl
  · exact fact_cv35 (.inl ⟨31, rfl, rfl⟩) (.inl ⟨32, rfl, rfl⟩)

def lHB : List Fact := [⟨.len 9, [.chan (some 40)], .chan (some 41)⟩, ⟨.mx, [.chan (some 41), .int .i64 0], .chan (some 41)⟩, ⟨.bin .gtr 3, [.chan (some 41), .int .i64 0], .bool true⟩, ⟨.bin .shr 3, [.chan (some 41), .int .u64 8], .int .i64 0⟩, ⟨.bin .shr 3, [.chan (some 41), .int .i64 0], .chan (some 41)⟩, ⟨.cv 3 5, [.chan (some 41)], .chan (some 42)⟩]

theorem lHB_ok (x : Nat) (m h : ByteArray) (h0 : 0 < h.size) (h1 : h.size ≤ 160) : ∀ y ∈ lHB, FactOk Tryz.prog (nmOf (nmB x m h)) y := by
  intro y hy
  unfold lHB at hy
  simp only [List.mem_cons, List.not_mem_nil, or_false] at hy
  rcases hy with rfl | rfl | rfl | rfl | rfl | rfl
  · exact fact_len (.inl ⟨40, rfl, rfl⟩) (.inl ⟨41, rfl, rfl⟩)
  · exact fact_max (.inl ⟨41, rfl, rfl⟩) (.inr ⟨rfl, rfl⟩) (.inl ⟨41, rfl, rfl⟩) (max0 h.size)
  · exact fact_ii (.inl ⟨41, rfl, rfl⟩) (.inr ⟨rfl, rfl⟩) (.inr ⟨rfl, rfl⟩) ⟨by decide, by decide⟩ (gtr0 h0) rfl
  · exact fact_sh (.inl ⟨41, rfl, rfl⟩) (.inr ⟨rfl, rfl⟩) (.inr ⟨rfl, by rw [Nat.div_eq_of_lt (by omega : h.size < 2 ^ 8)]; rfl⟩) (shr8 _ 8 (by decide)) rfl
  · exact fact_sh (.inl ⟨41, rfl, rfl⟩) (.inr ⟨rfl, rfl⟩) (.inl ⟨41, rfl, by rw [Nat.pow_zero, Nat.div_one]; rfl⟩) (shr8 _ 0 (by decide)) rfl
  · exact fact_cv35 (.inl ⟨41, rfl, rfl⟩) (.inl ⟨42, rfl, rfl⟩)

def bParts (content : List Value) : Parts where
  text := fun _ => none
  apart := fun _ _ _ => false
  cmp := fun _ _ => none
  short := fun b => Nat.beq b 30 || Nat.beq b 40
  byte := fun b => Nat.beq b 110 || Nat.beq b 111 || Nat.beq b 112 || Nat.beq b 113 || Nat.beq b 32 || Nat.beq b 42
  join := fun l => match allTwo (veq 8) l content with
    | true => some (.chan (some 20))
    | false => none
  same := fun _ _ _ => none

theorem bParts_ok {x : Nat} {m h : ByteArray} {content : List Value} (hm : m.size ≤ 160) (hh : h.size ≤ 160)
    (hj : ∀ {ι : Emb}, (∀ b v, nmOf (nmB x m h) b = some v → ι b = .val v) → ∀ {bs : List UInt8}, CDen ι content bs → bs = textL x m h) : PartsOk Tryz.prog (nmOf (nmB x m h)) (bParts content) where
  text := fun _ _ h => (by cases h)
  apart := fun _ _ _ _ _ h => (by cases h)
  cmp := fun _ _ _ _ _ _ h => (by cases h)
  short := fun b hb => by
    simp only [bParts, Bool.or_eq_true, Nat.beq_eq] at hb
    rcases hb with rfl | rfl
    · exact ⟨m, rfl, by omega⟩
    · exact ⟨h, rfl, by omega⟩
  byte := fun b hb => by
    simp only [bParts, Bool.or_eq_true, Nat.beq_eq] at hb
    rcases hb with ((((rfl | rfl) | rfl) | rfl) | rfl) | rfl <;> exact ⟨_, rfl⟩
  join := fun {ι} hn {l v bs} h1 h2 => by
    simp only [bParts] at h1
    split at h1
    · rename_i he
      cases h1
      have := allTwo_eq (fun a b => veq_eq 8 a b) he
      subst this
      have e := hj hn h2
      subst e
      exact .sym 20 ⟨hn 20 _ rfl, rfl⟩
    · cases h1
  same := fun _ _ _ _ _ _ _ h => (by cases h)

theorem env_parts (nm : Nat → Option Value) (l : List Fact) (p : Parts) (hl : ∀ x ∈ l, FactOk Tryz.prog nm x) (hp : PartsOk Tryz.prog nm p) : @Env Tryz.prog (mkTab Tryz.prog nm l p) (told []) :=
  @env_told (mkTab Tryz.prog nm l p) (mkTab_ok hl hp) [] (fun x h => by simp at h)

theorem size_zero {s : ByteArray} (h : s.size = 0) : s = ⟨#[]⟩ := by
  obtain ⟨a⟩ := s
  congr 1
  exact Array.size_eq_zero_iff.1 h

theorem nmB_range (x : Nat) (m h : ByteArray) : ∀ b v, nmOf (nmB x m h) b = some v → Tryz.prog.globals.size ≤ b ∧ b < 1000 := nmOf_range rfl


def ct000 : List Value := [.int .u8 0, .int .u8 0, .int .u8 0, .int .u8 0, .int .u8 0, .int .u8 0, .int .u8 0, .int .u8 0]

def fB000 : List Fact := lC0

theorem runB000 (nm : Nat → Option Value) : isVal (.string ⟨#[0, 0, 0, 0, 0, 0, 0, 0]⟩) ((@go Tryz.prog (mkTab Tryz.prog nm fB000 (bParts ct000)) (told []) 100000).call 6 [partsV (.chan (some 12)) (.string ⟨#[]⟩) (.string ⟨#[]⟩)] ⟨.nil, 1000⟩) = true := by kernel_rfl

theorem yB000 (x : Nat) (m h : ByteArray) (hx : x = 0) (hm0 : m.size = 0) (hh0 : h.size = 0) : Yields Tryz.prog 6 #[partsV (I x) (.string m) (.string h)] (.string (textS x m h)) := by
  obtain rfl := size_zero hm0
  obtain rfl := size_zero hh0
  subst hx
  have hcx : cnt 0 = 0 := by
    rfl
  have hcm : cnt (⟨#[]⟩ : ByteArray).size = 0 := by
    rfl
  have hch : cnt (⟨#[]⟩ : ByteArray).size = 0 := by
    rfl
  have hj : ∀ {ι : Emb}, (∀ b v, nmOf (nmB 0 ⟨#[]⟩ ⟨#[]⟩) b = some v → ι b = .val v) → ∀ {bs : List UInt8}, CDen ι ct000 bs → bs = textL 0 ⟨#[]⟩ ⟨#[]⟩ := by
    intro ι hn bs hc0
    unfold ct000 at hc0
    obtain ⟨_, hc1, rfl⟩ := cden_byte (c := 0) hn (.inr ⟨rfl, rfl⟩) hc0
    obtain ⟨_, hc2, rfl⟩ := cden_byte (c := 0) hn (.inr ⟨rfl, rfl⟩) hc1
    obtain ⟨_, hc3, rfl⟩ := cden_byte (c := 0) hn (.inr ⟨rfl, rfl⟩) hc2
    obtain ⟨_, hc4, rfl⟩ := cden_byte (c := 0) hn (.inr ⟨rfl, rfl⟩) hc3
    obtain ⟨_, hc5, rfl⟩ := cden_byte (c := 0) hn (.inr ⟨rfl, rfl⟩) hc4
    obtain ⟨_, hc6, rfl⟩ := cden_byte (c := 0) hn (.inr ⟨rfl, rfl⟩) hc5
    obtain ⟨_, hc7, rfl⟩ := cden_byte (c := 0) hn (.inr ⟨rfl, rfl⟩) hc6
    obtain ⟨_, hc8, rfl⟩ := cden_byte (c := 0) hn (.inr ⟨rfl, rfl⟩) hc7
    obtain rfl := cden_nil hc8
    unfold textL numB
    simp only [hcx, hcm, hch]
    simp [digits, sh8]
  have hl : ∀ y ∈ fB000, FactOk Tryz.prog (nmOf (nmB 0 ⟨#[]⟩ ⟨#[]⟩)) y := by
    intro y hy
    unfold fB000 at hy
    exact lC0_ok 0 _ _ rfl y hy
  have hp := bParts_ok (x := 0) (m := ⟨#[]⟩) (h := ⟨#[]⟩) (by decide) (by decide) hj
  obtain ⟨σ', hrun⟩ := isVal_ok (runB000 (nmOf (nmB 0 ⟨#[]⟩ ⟨#[]⟩)))
  refine yields_tab (nmOf (nmB 0 ⟨#[]⟩ ⟨#[]⟩)) fB000 (bParts ct000) hl hp (env_parts _ _ _ hl hp) (us := [_]) base0 (nmB_range _ _ _) (fun ι3 v' h1 h2 => ?_) (fun ι hn => ?_) hrun
  · rw [h2.str_eq]; rfl
  · refine .cons (VRel.agg_list (xs := [_, _, _, _, _, _, _, _]) (ys := [_, _, _, _, _, _, _, _]) (.cons (.sym 12 ⟨hn 12 _ rfl, rfl⟩) (.cons (.string _) (.cons (.string _) (.cons (.slnil 0 0) (.cons (.slnil 0 0) (.cons (.slnil 0 0) (.cons (.slnil 0 0) (.cons (.slnil 0 0) .nil))))))))) .nil

def ct001 : List Value := [.int .u8 0, .int .u8 0, .int .u8 1, .chan (some 42), .chan (some 40), .int .u8 0, .int .u8 0, .int .u8 0, .int .u8 0, .int .u8 0]

def fB001 : List Fact := lC0 ++ lHB

theorem runB001 (nm : Nat → Option Value) : isVal (.chan (some 20)) ((@go Tryz.prog (mkTab Tryz.prog nm fB001 (bParts ct001)) (told []) 100000).call 6 [partsV (.chan (some 12)) (.string ⟨#[]⟩) (.chan (some 40))] ⟨.nil, 1000⟩) = true := by kernel_rfl

theorem yB001 (x : Nat) (m h : ByteArray) (hx : x = 0) (hm0 : m.size = 0) (hh0 : 0 < h.size) (hh1 : h.size ≤ 160) : Yields Tryz.prog 6 #[partsV (I x) (.string m) (.string h)] (.string (textS x m h)) := by
  obtain rfl := size_zero hm0
  subst hx
  have hcx : cnt 0 = 0 := by
    rfl
  have hcm : cnt (⟨#[]⟩ : ByteArray).size = 0 := by
    rfl
  have hch : cnt (h : ByteArray).size = 1 := by
    unfold cnt; rw [if_neg (by omega), if_pos (by omega)]
  have hj : ∀ {ι : Emb}, (∀ b v, nmOf (nmB 0 ⟨#[]⟩ h) b = some v → ι b = .val v) → ∀ {bs : List UInt8}, CDen ι ct001 bs → bs = textL 0 ⟨#[]⟩ h := by
    intro ι hn bs hc0
    unfold ct001 at hc0
    obtain ⟨_, hc1, rfl⟩ := cden_byte (c := 0) hn (.inr ⟨rfl, rfl⟩) hc0
    obtain ⟨_, hc2, rfl⟩ := cden_byte (c := 0) hn (.inr ⟨rfl, rfl⟩) hc1
    obtain ⟨_, hc3, rfl⟩ := cden_byte (c := 1) hn (.inr ⟨rfl, rfl⟩) hc2
    obtain ⟨_, hc4, rfl⟩ := cden_byte hn (.inl ⟨42, rfl, rfl⟩) hc3
    obtain ⟨_, hc5, rfl⟩ := cden_str hn (.inl ⟨40, rfl, rfl⟩) hc4
    obtain ⟨_, hc6, rfl⟩ := cden_byte (c := 0) hn (.inr ⟨rfl, rfl⟩) hc5
    obtain ⟨_, hc7, rfl⟩ := cden_byte (c := 0) hn (.inr ⟨rfl, rfl⟩) hc6
    obtain ⟨_, hc8, rfl⟩ := cden_byte (c := 0) hn (.inr ⟨rfl, rfl⟩) hc7
    obtain ⟨_, hc9, rfl⟩ := cden_byte (c := 0) hn (.inr ⟨rfl, rfl⟩) hc8
    obtain ⟨_, hc10, rfl⟩ := cden_byte (c := 0) hn (.inr ⟨rfl, rfl⟩) hc9
    obtain rfl := cden_nil hc10
    unfold textL numB
    simp only [hcx, hcm, hch]
    simp [digits, sh8]
  have hl : ∀ y ∈ fB001, FactOk Tryz.prog (nmOf (nmB 0 ⟨#[]⟩ h)) y := by
    intro y hy
    unfold fB001 at hy
    rcases List.mem_append.1 hy with hy | hy
    · exact lC0_ok 0 _ h rfl y hy
    · exact lHB_ok 0 _ h hh0 hh1 y hy
  have hp := bParts_ok (x := 0) (m := ⟨#[]⟩) (h := h) (by decide) hh1 hj
  obtain ⟨σ', hrun⟩ := isVal_ok (runB001 (nmOf (nmB 0 ⟨#[]⟩ h)))
  refine yields_tab (nmOf (nmB 0 ⟨#[]⟩ h)) fB001 (bParts ct001) hl hp (env_parts _ _ _ hl hp) (us := [_]) base0 (nmB_range _ _ _) (fun ι3 v' h1 h2 => ?_) (fun ι hn => ?_) hrun
  · exact VRel.chan_eq (h1 20 _ rfl) h2
  · refine .cons (VRel.agg_list (xs := [_, _, _, _, _, _, _, _]) (ys := [_, _, _, _, _, _, _, _]) (.cons (.sym 12 ⟨hn 12 _ rfl, rfl⟩) (.cons (.string _) (.cons (.sym 40 ⟨hn 40 _ rfl, rfl⟩) (.cons (.slnil 0 0) (.cons (.slnil 0 0) (.cons (.slnil 0 0) (.cons (.slnil 0 0) (.cons (.slnil 0 0) .nil))))))))) .nil

def ct010 : List Value := [.int .u8 0, .int .u8 1, .chan (some 32), .chan (some 30), .int .u8 0, .string ⟨#[]⟩, .int .u8 0, .int .u8 0, .int .u8 0, .int .u8 0, .int .u8 0]

def fB010 : List Fact := lC0 ++ lMB

theorem runB010 (nm : Nat → Option Value) : isVal (.chan (some 20)) ((@go Tryz.prog (mkTab Tryz.prog nm fB010 (bParts ct010)) (told []) 100000).call 6 [partsV (.chan (some 12)) (.chan (some 30)) (.string ⟨#[]⟩)] ⟨.nil, 1000⟩) = true := by kernel_rfl

theorem yB010 (x : Nat) (m h : ByteArray) (hx : x = 0) (hm0 : 0 < m.size) (hm1 : m.size ≤ 160) (hh0 : h.size = 0) : Yields Tryz.prog 6 #[partsV (I x) (.string m) (.string h)] (.string (textS x m h)) := by
  obtain rfl := size_zero hh0
  subst hx
  have hcx : cnt 0 = 0 := by
    rfl
  have hcm : cnt (m : ByteArray).size = 1 := by
    unfold cnt; rw [if_neg (by omega), if_pos (by omega)]
  have hch : cnt (⟨#[]⟩ : ByteArray).size = 0 := by
    rfl
  have hj : ∀ {ι : Emb}, (∀ b v, nmOf (nmB 0 m ⟨#[]⟩) b = some v → ι b = .val v) → ∀ {bs : List UInt8}, CDen ι ct010 bs → bs = textL 0 m ⟨#[]⟩ := by
    intro ι hn bs hc0
    unfold ct010 at hc0
    obtain ⟨_, hc1, rfl⟩ := cden_byte (c := 0) hn (.inr ⟨rfl, rfl⟩) hc0
    obtain ⟨_, hc2, rfl⟩ := cden_byte (c := 1) hn (.inr ⟨rfl, rfl⟩) hc1
    obtain ⟨_, hc3, rfl⟩ := cden_byte hn (.inl ⟨32, rfl, rfl⟩) hc2
    obtain ⟨_, hc4, rfl⟩ := cden_str hn (.inl ⟨30, rfl, rfl⟩) hc3
    obtain ⟨_, hc5, rfl⟩ := cden_byte (c := 0) hn (.inr ⟨rfl, rfl⟩) hc4
    obtain ⟨_, hc6, rfl⟩ := cden_str (s := ⟨#[]⟩) hn (.inr ⟨rfl, rfl⟩) hc5
    obtain ⟨_, hc7, rfl⟩ := cden_byte (c := 0) hn (.inr ⟨rfl, rfl⟩) hc6
    obtain ⟨_, hc8, rfl⟩ := cden_byte (c := 0) hn (.inr ⟨rfl, rfl⟩) hc7
    obtain ⟨_, hc9, rfl⟩ := cden_byte (c := 0) hn (.inr ⟨rfl, rfl⟩) hc8
    obtain ⟨_, hc10, rfl⟩ := cden_byte (c := 0) hn (.inr ⟨rfl, rfl⟩) hc9
    obtain ⟨_, hc11, rfl⟩ := cden_byte (c := 0) hn (.inr ⟨rfl, rfl⟩) hc10
    obtain rfl := cden_nil hc11
    unfold textL numB
    simp only [hcx, hcm, hch]
    simp [digits, sh8]
  have hl : ∀ y ∈ fB010, FactOk Tryz.prog (nmOf (nmB 0 m ⟨#[]⟩)) y := by
    intro y hy
    unfold fB010 at hy
    rcases List.mem_append.1 hy with hy | hy
    · exact lC0_ok 0 m _ rfl y hy
    · exact lMB_ok 0 m _ hm0 hm1 y hy
  have hp := bParts_ok (x := 0) (m := m) (h := ⟨#[]⟩) hm1 (by decide) hj
  obtain ⟨σ', hrun⟩ := isVal_ok (runB010 (nmOf (nmB 0 m ⟨#[]⟩)))
  refine yields_tab (nmOf (nmB 0 m ⟨#[]⟩)) fB010 (bParts ct010) hl hp (env_parts _ _ _ hl hp) (us := [_]) base0 (nmB_range _ _ _) (fun ι3 v' h1 h2 => ?_) (fun ι hn => ?_) hrun
  · exact VRel.chan_eq (h1 20 _ rfl) h2
  · refine .cons (VRel.agg_list (xs := [_, _, _, _, _, _, _, _]) (ys := [_, _, _, _, _, _, _, _]) (.cons (.sym 12 ⟨hn 12 _ rfl, rfl⟩) (.cons (.sym 30 ⟨hn 30 _ rfl, rfl⟩) (.cons (.string _) (.cons (.slnil 0 0) (.cons (.slnil 0 0) (.cons (.slnil 0 0) (.cons (.slnil 0 0) (.cons (.slnil 0 0) .nil))))))))) .nil

def ct011 : List Value := [.int .u8 0, .int .u8 1, .chan (some 32), .chan (some 30), .int .u8 1, .chan (some 42), .chan (some 40), .int .u8 0, .int .u8 0, .int .u8 0, .int .u8 0, .int .u8 0]

def fB011 : List Fact := lC0 ++ lMB ++ lHB

theorem runB011 (nm : Nat → Option Value) : isVal (.chan (some 20)) ((@go Tryz.prog (mkTab Tryz.prog nm fB011 (bParts ct011)) (told []) 100000).call 6 [partsV (.chan (some 12)) (.chan (some 30)) (.chan (some 40))] ⟨.nil, 1000⟩) = true := by kernel_rfl

theorem yB011 (x : Nat) (m h : ByteArray) (hx : x = 0) (hm0 : 0 < m.size) (hm1 : m.size ≤ 160) (hh0 : 0 < h.size) (hh1 : h.size ≤ 160) : Yields Tryz.prog 6 #[partsV (I x) (.string m) (.string h)] (.string (textS x m h)) := by
  subst hx
  have hcx : cnt 0 = 0 := by
    rfl
  have hcm : cnt (m : ByteArray).size = 1 := by
    unfold cnt; rw [if_neg (by omega), if_pos (by omega)]
  have hch : cnt (h : ByteArray).size = 1 := by
    unfold cnt; rw [if_neg (by omega), if_pos (by omega)]
  have hj : ∀ {ι : Emb}, (∀ b v, nmOf (nmB 0 m h) b = some v → ι b = .val v) → ∀ {bs : List UInt8}, CDen ι ct011 bs → bs = textL 0 m h := by
    intro ι hn bs hc0
    unfold ct011 at hc0
    obtain ⟨_, hc1, rfl⟩ := cden_byte (c := 0) hn (.inr ⟨rfl, rfl⟩) hc0
    obtain ⟨_, hc2, rfl⟩ := cden_byte (c := 1) hn (.inr ⟨rfl, rfl⟩) hc1
    obtain ⟨_, hc3, rfl⟩ := cden_byte hn (.inl ⟨32, rfl, rfl⟩) hc2
    obtain ⟨_, hc4, rfl⟩ := cden_str hn (.inl ⟨30, rfl, rfl⟩) hc3
    obtain ⟨_, hc5, rfl⟩ := cden_byte (c := 1) hn (.inr ⟨rfl, rfl⟩) hc4
    obtain ⟨_, hc6, rfl⟩ := cden_byte hn (.inl ⟨42, rfl, rfl⟩) hc5
    obtain ⟨_, hc7, rfl⟩ := cden_str hn (.inl ⟨40, rfl, rfl⟩) hc6
    obtain ⟨_, hc8, rfl⟩ := cden_byte (c := 0) hn (.inr ⟨rfl, rfl⟩) hc7
    obtain ⟨_, hc9, rfl⟩ := cden_byte (c := 0) hn (.inr ⟨rfl, rfl⟩) hc8
    obtain ⟨_, hc10, rfl⟩ := cden_byte (c := 0) hn (.inr ⟨rfl, rfl⟩) hc9
    obtain ⟨_, hc11, rfl⟩ := cden_byte (c := 0) hn (.inr ⟨rfl, rfl⟩) hc10
    obtain ⟨_, hc12, rfl⟩ := cden_byte (c := 0) hn (.inr ⟨rfl, rfl⟩) hc11
    obtain rfl := cden_nil hc12
    unfold textL numB
    simp only [hcx, hcm, hch]
    simp [digits, sh8]
  have hl : ∀ y ∈ fB011, FactOk Tryz.prog (nmOf (nmB 0 m h)) y := by
    intro y hy
    unfold fB011 at hy
    rcases List.mem_append.1 hy with hy | hy
    · rcases List.mem_append.1 hy with hy | hy
      · exact lC0_ok 0 m h rfl y hy
      · exact lMB_ok 0 m h hm0 hm1 y hy
    · exact lHB_ok 0 m h hh0 hh1 y hy
  have hp := bParts_ok (x := 0) (m := m) (h := h) hm1 hh1 hj
  obtain ⟨σ', hrun⟩ := isVal_ok (runB011 (nmOf (nmB 0 m h)))
  refine yields_tab (nmOf (nmB 0 m h)) fB011 (bParts ct011) hl hp (env_parts _ _ _ hl hp) (us := [_]) base0 (nmB_range _ _ _) (fun ι3 v' h1 h2 => ?_) (fun ι hn => ?_) hrun
  · exact VRel.chan_eq (h1 20 _ rfl) h2
  · refine .cons (VRel.agg_list (xs := [_, _, _, _, _, _, _, _]) (ys := [_, _, _, _, _, _, _, _]) (.cons (.sym 12 ⟨hn 12 _ rfl, rfl⟩) (.cons (.sym 30 ⟨hn 30 _ rfl, rfl⟩) (.cons (.sym 40 ⟨hn 40 _ rfl, rfl⟩) (.cons (.slnil 0 0) (.cons (.slnil 0 0) (.cons (.slnil 0 0) (.cons (.slnil 0 0) (.cons (.slnil 0 0) .nil))))))))) .nil

def ct100 : List Value := [.int .u8 1, .chan (some 110), .int .u8 0, .int .u8 0, .int .u8 0, .int .u8 0, .int .u8 0, .int .u8 0, .int .u8 0]

def fB100 : List Fact := lC1

theorem runB100 (nm : Nat → Option Value) : isVal (.chan (some 20)) ((@go Tryz.prog (mkTab Tryz.prog nm fB100 (bParts ct100)) (told []) 100000).call 6 [partsV (.chan (some 12)) (.string ⟨#[]⟩) (.string ⟨#[]⟩)] ⟨.nil, 1000⟩) = true := by kernel_rfl

theorem yB100 (x : Nat) (m h : ByteArray) (hx1 : 1 ≤ x) (hx2 : x < 256) (hm0 : m.size = 0) (hh0 : h.size = 0) : Yields Tryz.prog 6 #[partsV (I x) (.string m) (.string h)] (.string (textS x m h)) := by
  obtain rfl := size_zero hm0
  obtain rfl := size_zero hh0
  have hcx : cnt x = 1 := by
    unfold cnt; rw [if_neg (by omega), if_pos (by omega)]
  have hcm : cnt (⟨#[]⟩ : ByteArray).size = 0 := by
    rfl
  have hch : cnt (⟨#[]⟩ : ByteArray).size = 0 := by
    rfl
  have hj : ∀ {ι : Emb}, (∀ b v, nmOf (nmB x ⟨#[]⟩ ⟨#[]⟩) b = some v → ι b = .val v) → ∀ {bs : List UInt8}, CDen ι ct100 bs → bs = textL x ⟨#[]⟩ ⟨#[]⟩ := by
    intro ι hn bs hc0
    unfold ct100 at hc0
    obtain ⟨_, hc1, rfl⟩ := cden_byte (c := 1) hn (.inr ⟨rfl, rfl⟩) hc0
    obtain ⟨_, hc2, rfl⟩ := cden_byte hn (.inl ⟨110, rfl, rfl⟩) hc1
    obtain ⟨_, hc3, rfl⟩ := cden_byte (c := 0) hn (.inr ⟨rfl, rfl⟩) hc2
    obtain ⟨_, hc4, rfl⟩ := cden_byte (c := 0) hn (.inr ⟨rfl, rfl⟩) hc3
    obtain ⟨_, hc5, rfl⟩ := cden_byte (c := 0) hn (.inr ⟨rfl, rfl⟩) hc4
    obtain ⟨_, hc6, rfl⟩ := cden_byte (c := 0) hn (.inr ⟨rfl, rfl⟩) hc5
    obtain ⟨_, hc7, rfl⟩ := cden_byte (c := 0) hn (.inr ⟨rfl, rfl⟩) hc6
    obtain ⟨_, hc8, rfl⟩ := cden_byte (c := 0) hn (.inr ⟨rfl, rfl⟩) hc7
    obtain ⟨_, hc9, rfl⟩ := cden_byte (c := 0) hn (.inr ⟨rfl, rfl⟩) hc8
    obtain rfl := cden_nil hc9
    unfold textL numB
    simp only [hcx, hcm, hch]
    simp [digits, sh8]
  have hl : ∀ y ∈ fB100, FactOk Tryz.prog (nmOf (nmB x ⟨#[]⟩ ⟨#[]⟩)) y := by
    intro y hy
    unfold fB100 at hy
    exact lC1_ok x _ _ hx1 hx2 y hy
  have hp := bParts_ok (x := x) (m := ⟨#[]⟩) (h := ⟨#[]⟩) (by decide) (by decide) hj
  obtain ⟨σ', hrun⟩ := isVal_ok (runB100 (nmOf (nmB x ⟨#[]⟩ ⟨#[]⟩)))
  refine yields_tab (nmOf (nmB x ⟨#[]⟩ ⟨#[]⟩)) fB100 (bParts ct100) hl hp (env_parts _ _ _ hl hp) (us := [_]) base0 (nmB_range _ _ _) (fun ι3 v' h1 h2 => ?_) (fun ι hn => ?_) hrun
  · exact VRel.chan_eq (h1 20 _ rfl) h2
  · refine .cons (VRel.agg_list (xs := [_, _, _, _, _, _, _, _]) (ys := [_, _, _, _, _, _, _, _]) (.cons (.sym 12 ⟨hn 12 _ rfl, rfl⟩) (.cons (.string _) (.cons (.string _) (.cons (.slnil 0 0) (.cons (.slnil 0 0) (.cons (.slnil 0 0) (.cons (.slnil 0 0) (.cons (.slnil 0 0) .nil))))))))) .nil

def ct101 : List Value := [.int .u8 1, .chan (some 110), .int .u8 0, .int .u8 1, .chan (some 42), .chan (some 40), .int .u8 0, .int .u8 0, .int .u8 0, .int .u8 0, .int .u8 0]

def fB101 : List Fact := lC1 ++ lHB

theorem runB101 (nm : Nat → Option Value) : isVal (.chan (some 20)) ((@go Tryz.prog (mkTab Tryz.prog nm fB101 (bParts ct101)) (told []) 100000).call 6 [partsV (.chan (some 12)) (.string ⟨#[]⟩) (.chan (some 40))] ⟨.nil, 1000⟩) = true := by kernel_rfl

theorem yB101 (x : Nat) (m h : ByteArray) (hx1 : 1 ≤ x) (hx2 : x < 256) (hm0 : m.size = 0) (hh0 : 0 < h.size) (hh1 : h.size ≤ 160) : Yields Tryz.prog 6 #[partsV (I x) (.string m) (.string h)] (.string (textS x m h)) := by
  obtain rfl := size_zero hm0
  have hcx : cnt x = 1 := by
    unfold cnt; rw [if_neg (by omega), if_pos (by omega)]
  have hcm : cnt (⟨#[]⟩ : ByteArray).size = 0 := by
    rfl
  have hch : cnt (h : ByteArray).size = 1 := by
    unfold cnt; rw [if_neg (by omega), if_pos (by omega)]
  have hj : ∀ {ι : Emb}, (∀ b v, nmOf (nmB x ⟨#[]⟩ h) b = some v → ι b = .val v) → ∀ {bs : List UInt8}, CDen ι ct101 bs → bs = textL x ⟨#[]⟩ h := by
    intro ι hn bs hc0
    unfold ct101 at hc0
    obtain ⟨_, hc1, rfl⟩ := cden_byte (c := 1) hn (.inr ⟨rfl, rfl⟩) hc0
    obtain ⟨_, hc2, rfl⟩ := cden_byte hn (.inl ⟨110, rfl, rfl⟩) hc1
    obtain ⟨_, hc3, rfl⟩ := cden_byte (c := 0) hn (.inr ⟨rfl, rfl⟩) hc2
    obtain ⟨_, hc4, rfl⟩ := cden_byte (c := 1) hn (.inr ⟨rfl, rfl⟩) hc3
    obtain ⟨_, hc5, rfl⟩ := cden_byte hn (.inl ⟨42, rfl, rfl⟩) hc4
    obtain ⟨_, hc6, rfl⟩ := cden_str hn (.inl ⟨40, rfl, rfl⟩) hc5
    obtain ⟨_, hc7, rfl⟩ := cden_byte (c := 0) hn (.inr ⟨rfl, rfl⟩) hc6
    obtain ⟨_, hc8, rfl⟩ := cden_byte (c := 0) hn (.inr ⟨rfl, rfl⟩) hc7
    obtain ⟨_, hc9, rfl⟩ := cden_byte (c := 0) hn (.inr ⟨rfl, rfl⟩) hc8
    obtain ⟨_, hc10, rfl⟩ := cden_byte (c := 0) hn (.inr ⟨rfl, rfl⟩) hc9
    obtain ⟨_, hc11, rfl⟩ := cden_byte (c := 0) hn (.inr ⟨rfl, rfl⟩) hc10
    obtain rfl := cden_nil hc11
    unfold textL numB
    simp only [hcx, hcm, hch]
    simp [digits, sh8]
  have hl : ∀ y ∈ fB101, FactOk Tryz.prog (nmOf (nmB x ⟨#[]⟩ h)) y := by
    intro y hy
    unfold fB101 at hy
    rcases List.mem_append.1 hy with hy | hy
    · exact lC1_ok x _ h hx1 hx2 y hy
    · exact lHB_ok x _ h hh0 hh1 y hy
  have hp := bParts_ok (x := x) (m := ⟨#[]⟩) (h := h) (by decide) hh1 hj
  obtain ⟨σ', hrun⟩ := isVal_ok (runB101 (nmOf (nmB x ⟨#[]⟩ h)))
  refine yields_tab (nmOf (nmB x ⟨#[]⟩ h)) fB101 (bParts ct101) hl hp (env_parts _ _ _ hl hp) (us := [_]) base0 (nmB_range _ _ _) (fun ι3 v' h1 h2 => ?_) (fun ι hn => ?_) hrun
  · exact VRel.chan_eq (h1 20 _ rfl) h2
  · refine .cons (VRel.agg_list (xs := [_, _, _, _, _, _, _, _]) (ys := [_, _, _, _, _, _, _, _]) (.cons (.sym 12 ⟨hn 12 _ rfl, rfl⟩) (.cons (.string _) (.cons (.sym 40 ⟨hn 40 _ rfl, rfl⟩) (.cons (.slnil 0 0) (.cons (.slnil 0 0) (.cons (.slnil 0 0) (.cons (.slnil 0 0) (.cons (.slnil 0 0) .nil))))))))) .nil

def ct110 : List Value := [.int .u8 1, .chan (some 110), .int .u8 1, .chan (some 32), .chan (some 30), .int .u8 0, .string ⟨#[]⟩, .int .u8 0, .int .u8 0, .int .u8 0, .int .u8 0, .int .u8 0]

def fB110 : List Fact := lC1 ++ lMB

theorem runB110 (nm : Nat → Option Value) : isVal (.chan (some 20)) ((@go Tryz.prog (mkTab Tryz.prog nm fB110 (bParts ct110)) (told []) 100000).call 6 [partsV (.chan (some 12)) (.chan (some 30)) (.string ⟨#[]⟩)] ⟨.nil, 1000⟩) = true := by kernel_rfl

theorem yB110 (x : Nat) (m h : ByteArray) (hx1 : 1 ≤ x) (hx2 : x < 256) (hm0 : 0 < m.size) (hm1 : m.size ≤ 160) (hh0 : h.size = 0) : Yields Tryz.prog 6 #[partsV (I x) (.string m) (.string h)] (.string (textS x m h)) := by
  obtain rfl := size_zero hh0
  have hcx : cnt x = 1 := by
    unfold cnt; rw [if_neg (by omega), if_pos (by omega)]
  have hcm : cnt (m : ByteArray).size = 1 := by
    unfold cnt; rw [if_neg (by omega), if_pos (by omega)]
  have hch : cnt (⟨#[]⟩ : ByteArray).size = 0 := by
    rfl
  have hj : ∀ {ι : Emb}, (∀ b v, nmOf (nmB x m ⟨#[]⟩) b = some v → ι b = .val v) → ∀ {bs : List UInt8}, CDen ι ct110 bs → bs = textL x m ⟨#[]⟩ := by
    intro ι hn bs hc0
    unfold ct110 at hc0
    obtain ⟨_, hc1, rfl⟩ := cden_byte (c := 1) hn (.inr ⟨rfl, rfl⟩) hc0
    obtain ⟨_, hc2, rfl⟩ := cden_byte hn (.inl ⟨110, rfl, rfl⟩) hc1
    obtain ⟨_, hc3, rfl⟩ := cden_byte (c := 1) hn (.inr ⟨rfl, rfl⟩) hc2
    obtain ⟨_, hc4, rfl⟩ := cden_byte hn (.inl ⟨32, rfl, rfl⟩) hc3
    obtain ⟨_, hc5, rfl⟩ := cden_str hn (.inl ⟨30, rfl, rfl⟩) hc4
    obtain ⟨_, hc6, rfl⟩ := cden_byte (c := 0) hn (.inr ⟨rfl, rfl⟩) hc5
    obtain ⟨_, hc7, rfl⟩ := cden_str (s := ⟨#[]⟩) hn (.inr ⟨rfl, rfl⟩) hc6
    obtain ⟨_, hc8, rfl⟩ := cden_byte (c := 0) hn (.inr ⟨rfl, rfl⟩) hc7
    obtain ⟨_, hc9, rfl⟩ := cden_byte (c := 0) hn (.inr ⟨rfl, rfl⟩) hc8
    obtain ⟨_, hc10, rfl⟩ := cden_byte (c := 0) hn (.inr ⟨rfl, rfl⟩) hc9
    obtain ⟨_, hc11, rfl⟩ := cden_byte (c := 0) hn (.inr ⟨rfl, rfl⟩) hc10
    obtain ⟨_, hc12, rfl⟩ := cden_byte (c := 0) hn (.inr ⟨rfl, rfl⟩) hc11
    obtain rfl := cden_nil hc12
    unfold textL numB
    simp only [hcx, hcm, hch]
    simp [digits, sh8]
  have hl : ∀ y ∈ fB110, FactOk Tryz.prog (nmOf (nmB x m ⟨#[]⟩)) y := by
    intro y hy
    unfold fB110 at hy
    rcases List.mem_append.1 hy with hy | hy
    · exact lC1_ok x m _ hx1 hx2 y hy
    · exact lMB_ok x m _ hm0 hm1 y hy
  have hp := bParts_ok (x := x) (m := m) (h := ⟨#[]⟩) hm1 (by decide) hj
  obtain ⟨σ', hrun⟩ := isVal_ok (runB110 (nmOf (nmB x m ⟨#[]⟩)))
  refine yields_tab (nmOf (nmB x m ⟨#[]⟩)) fB110 (bParts ct110) hl hp (env_parts _ _ _ hl hp) (us := [_]) base0 (nmB_range _ _ _) (fun ι3 v' h1 h2 => ?_) (fun ι hn => ?_) hrun
  · exact VRel.chan_eq (h1 20 _ rfl) h2
  · refine .cons (VRel.agg_list (xs := [_, _, _, _, _, _, _, _]) (ys := [_, _, _, _, _, _, _, _]) (.cons (.sym 12 ⟨hn 12 _ rfl, rfl⟩) (.cons (.sym 30 ⟨hn 30 _ rfl, rfl⟩) (.cons (.string _) (.cons (.slnil 0 0) (.cons (.slnil 0 0) (.cons (.slnil 0 0) (.cons (.slnil 0 0) (.cons (.slnil 0 0) .nil))))))))) .nil

def ct111 : List Value := [.int .u8 1, .chan (some 110), .int .u8 1, .chan (some 32), .chan (some 30), .int .u8 1, .chan (some 42), .chan (some 40), .int .u8 0, .int .u8 0, .int .u8 0, .int .u8 0, .int .u8 0]

def fB111 : List Fact := lC1 ++ lMB ++ lHB

theorem runB111 (nm : Nat → Option Value) : isVal (.chan (some 20)) ((@go Tryz.prog (mkTab Tryz.prog nm fB111 (bParts ct111)) (told []) 100000).call 6 [partsV (.chan (some 12)) (.chan (some 30)) (.chan (some 40))] ⟨.nil, 1000⟩) = true := by kernel_rfl

theorem yB111 (x : Nat) (m h : ByteArray) (hx1 : 1 ≤ x) (hx2 : x < 256) (hm0 : 0 < m.size) (hm1 : m.size ≤ 160) (hh0 : 0 < h.size) (hh1 : h.size ≤ 160) : Yields Tryz.prog 6 #[partsV (I x) (.string m) (.string h)] (.string (textS x m h)) := by
  have hcx : cnt x = 1 := by
    unfold cnt; rw [if_neg (by omega), if_pos (by omega)]
  have hcm : cnt (m : ByteArray).size = 1 := by
    unfold cnt; rw [if_neg (by omega), if_pos (by omega)]
  have hch : cnt (h : ByteArray).size = 1 := by
    unfold cnt; rw [if_neg (by omega), if_pos (by omega)]
  have hj : ∀ {ι : Emb}, (∀ b v, nmOf (nmB x m h) b = some v → ι b = .val v) → ∀ {bs : List UInt8}, CDen ι ct111 bs → bs = textL x m h := by
    intro ι hn bs hc0
    unfold ct111 at hc0
    obtain ⟨_, hc1, rfl⟩ := cden_byte (c := 1) hn (.inr ⟨rfl, rfl⟩) hc0
    obtain ⟨_, hc2, rfl⟩ := cden_byte hn (.inl ⟨110, rfl, rfl⟩) hc1
    obtain ⟨_, hc3, rfl⟩ := cden_byte (c := 1) hn (.inr ⟨rfl, rfl⟩) hc2
    obtain ⟨_, hc4, rfl⟩ := cden_byte hn (.inl ⟨32, rfl, rfl⟩) hc3
    obtain ⟨_, hc5, rfl⟩ := cden_str hn (.inl ⟨30, rfl, rfl⟩) hc4
    obtain ⟨_, hc6, rfl⟩ := cden_byte (c := 1) hn (.inr ⟨rfl, rfl⟩) hc5
    obtain ⟨_, hc7, rfl⟩ := cden_byte hn (.inl ⟨42, rfl, rfl⟩) hc6
    obtain ⟨_, hc8, rfl⟩ := cden_str hn (.inl ⟨40, rfl, rfl⟩) hc7
    obtain ⟨_, hc9, rfl⟩ := cden_byte (c := 0) hn (.inr ⟨rfl, rfl⟩) hc8
    obtain ⟨_, hc10, rfl⟩ := cden_byte (c := 0) hn (.inr ⟨rfl, rfl⟩) hc9
    obtain ⟨_, hc11, rfl⟩ := cden_byte (c := 0) hn (.inr ⟨rfl, rfl⟩) hc10
    obtain ⟨_, hc12, rfl⟩ := cden_byte (c := 0) hn (.inr ⟨rfl, rfl⟩) hc11
    obtain ⟨_, hc13, rfl⟩ := cden_byte (c := 0) hn (.inr ⟨rfl, rfl⟩) hc12
    obtain rfl := cden_nil hc13
    unfold textL numB
    simp only [hcx, hcm, hch]
    simp [digits, sh8]
  have hl : ∀ y ∈ fB111, FactOk Tryz.prog (nmOf (nmB x m h)) y := by
    intro y hy
    unfold fB111 at hy
    rcases List.mem_append.1 hy with hy | hy
    · rcases List.mem_append.1 hy with hy | hy
      · exact lC1_ok x m h hx1 hx2 y hy
      · exact lMB_ok x m h hm0 hm1 y hy
    · exact lHB_ok x m h hh0 hh1 y hy
  have hp := bParts_ok (x := x) (m := m) (h := h) hm1 hh1 hj
  obtain ⟨σ', hrun⟩ := isVal_ok (runB111 (nmOf (nmB x m h)))
  refine yields_tab (nmOf (nmB x m h)) fB111 (bParts ct111) hl hp (env_parts _ _ _ hl hp) (us := [_]) base0 (nmB_range _ _ _) (fun ι3 v' h1 h2 => ?_) (fun ι hn => ?_) hrun
  · exact VRel.chan_eq (h1 20 _ rfl) h2
  · refine .cons (VRel.agg_list (xs := [_, _, _, _, _, _, _, _]) (ys := [_, _, _, _, _, _, _, _]) (.cons (.sym 12 ⟨hn 12 _ rfl, rfl⟩) (.cons (.sym 30 ⟨hn 30 _ rfl, rfl⟩) (.cons (.sym 40 ⟨hn 40 _ rfl, rfl⟩) (.cons (.slnil 0 0) (.cons (.slnil 0 0) (.cons (.slnil 0 0) (.cons (.slnil 0 0) (.cons (.slnil 0 0) .nil))))))))) .nil

def ct200 : List Value := [.int .u8 2, .chan (some 111), .chan (some 110), .int .u8 0, .int .u8 0, .int .u8 0, .int .u8 0, .int .u8 0, .int .u8 0, .int .u8 0]

def fB200 : List Fact := lC2

theorem runB200 (nm : Nat → Option Value) : isVal (.chan (some 20)) ((@go Tryz.prog (mkTab Tryz.prog nm fB200 (bParts ct200)) (told []) 100000).call 6 [partsV (.chan (some 12)) (.string ⟨#[]⟩) (.string ⟨#[]⟩)] ⟨.nil, 1000⟩) = true := by kernel_rfl

theorem yB200 (x : Nat) (m h : ByteArray) (hx1 : 256 ≤ x) (hx2 : x < 65536) (hm0 : m.size = 0) (hh0 : h.size = 0) : Yields Tryz.prog 6 #[partsV (I x) (.string m) (.string h)] (.string (textS x m h)) := by
  obtain rfl := size_zero hm0
  obtain rfl := size_zero hh0
  have hcx : cnt x = 2 := by
    unfold cnt; rw [if_neg (by omega), if_neg (by omega), if_pos (by omega)]
  have hcm : cnt (⟨#[]⟩ : ByteArray).size = 0 := by
    rfl
  have hch : cnt (⟨#[]⟩ : ByteArray).size = 0 := by
    rfl
  have hj : ∀ {ι : Emb}, (∀ b v, nmOf (nmB x ⟨#[]⟩ ⟨#[]⟩) b = some v → ι b = .val v) → ∀ {bs : List UInt8}, CDen ι ct200 bs → bs = textL x ⟨#[]⟩ ⟨#[]⟩ := by
    intro ι hn bs hc0
    unfold ct200 at hc0
    obtain ⟨_, hc1, rfl⟩ := cden_byte (c := 2) hn (.inr ⟨rfl, rfl⟩) hc0
    obtain ⟨_, hc2, rfl⟩ := cden_byte hn (.inl ⟨111, rfl, rfl⟩) hc1
    obtain ⟨_, hc3, rfl⟩ := cden_byte hn (.inl ⟨110, rfl, rfl⟩) hc2
    obtain ⟨_, hc4, rfl⟩ := cden_byte (c := 0) hn (.inr ⟨rfl, rfl⟩) hc3
    obtain ⟨_, hc5, rfl⟩ := cden_byte (c := 0) hn (.inr ⟨rfl, rfl⟩) hc4
    obtain ⟨_, hc6, rfl⟩ := cden_byte (c := 0) hn (.inr ⟨rfl, rfl⟩) hc5
    obtain ⟨_, hc7, rfl⟩ := cden_byte (c := 0) hn (.inr ⟨rfl, rfl⟩) hc6
    obtain ⟨_, hc8, rfl⟩ := cden_byte (c := 0) hn (.inr ⟨rfl, rfl⟩) hc7
    obtain ⟨_, hc9, rfl⟩ := cden_byte (c := 0) hn (.inr ⟨rfl, rfl⟩) hc8
    obtain ⟨_, hc10, rfl⟩ := cden_byte (c := 0) hn (.inr ⟨rfl, rfl⟩) hc9
    obtain rfl := cden_nil hc10
    unfold textL numB
    simp only [hcx, hcm, hch]
    simp [digits, sh8]
  have hl : ∀ y ∈ fB200, FactOk Tryz.prog (nmOf (nmB x ⟨#[]⟩ ⟨#[]⟩)) y := by
    intro y hy
    unfold fB200 at hy
    exact lC2_ok x _ _ hx1 hx2 y hy
  have hp := bParts_ok (x := x) (m := ⟨#[]⟩) (h := ⟨#[]⟩) (by decide) (by decide) hj
  obtain ⟨σ', hrun⟩ := isVal_ok (runB200 (nmOf (nmB x ⟨#[]⟩ ⟨#[]⟩)))
  refine yields_tab (nmOf (nmB x ⟨#[]⟩ ⟨#[]⟩)) fB200 (bParts ct200) hl hp (env_parts _ _ _ hl hp) (us := [_]) base0 (nmB_range _ _ _) (fun ι3 v' h1 h2 => ?_) (fun ι hn => ?_) hrun
  · exact VRel.chan_eq (h1 20 _ rfl) h2
  · refine .cons (VRel.agg_list (xs := [_, _, _, _, _, _, _, _]) (ys := [_, _, _, _, _, _, _, _]) (.cons (.sym 12 ⟨hn 12 _ rfl, rfl⟩) (.cons (.string _) (.cons (.string _) (.cons (.slnil 0 0) (.cons (.slnil 0 0) (.cons (.slnil 0 0) (.cons (.slnil 0 0) (.cons (.slnil 0 0) .nil))))))))) .nil

def ct201 : List Value := [.int .u8 2, .chan (some 111), .chan (some 110), .int .u8 0, .int .u8 1, .chan (some 42), .chan (some 40), .int .u8 0, .int .u8 0, .int .u8 0, .int .u8 0, .int .u8 0]

def fB201 : List Fact := lC2 ++ lHB

theorem runB201 (nm : Nat → Option Value) : isVal (.chan (some 20)) ((@go Tryz.prog (mkTab Tryz.prog nm fB201 (bParts ct201)) (told []) 100000).call 6 [partsV (.chan (some 12)) (.string ⟨#[]⟩) (.chan (some 40))] ⟨.nil, 1000⟩) = true := by kernel_rfl

theorem yB201 (x : Nat) (m h : ByteArray) (hx1 : 256 ≤ x) (hx2 : x < 65536) (hm0 : m.size = 0) (hh0 : 0 < h.size) (hh1 : h.size ≤ 160) : Yields Tryz.prog 6 #[partsV (I x) (.string m) (.string h)] (.string (textS x m h)) := by
  obtain rfl := size_zero hm0
  have hcx : cnt x = 2 := by
    unfold cnt; rw [if_neg (by omega), if_neg (by omega), if_pos (by omega)]
  have hcm : cnt (⟨#[]⟩ : ByteArray).size = 0 := by
    rfl
  have hch : cnt (h : ByteArray).size = 1 := by
    unfold cnt; rw [if_neg (by omega), if_pos (by omega)]
  have hj : ∀ {ι : Emb}, (∀ b v, nmOf (nmB x ⟨#[]⟩ h) b = some v → ι b = .val v) → ∀ {bs : List UInt8}, CDen ι ct201 bs → bs = textL x ⟨#[]⟩ h := by
    intro ι hn bs hc0
    unfold ct201 at hc0
    obtain ⟨_, hc1, rfl⟩ := cden_byte (c := 2) hn (.inr ⟨rfl, rfl⟩) hc0
    obtain ⟨_, hc2, rfl⟩ := cden_byte hn (.inl ⟨111, rfl, rfl⟩) hc1
    obtain ⟨_, hc3, rfl⟩ := cden_byte hn (.inl ⟨110, rfl, rfl⟩) hc2
    obtain ⟨_, hc4, rfl⟩ := cden_byte (c := 0) hn (.inr ⟨rfl, rfl⟩) hc3
    obtain ⟨_, hc5, rfl⟩ := cden_byte (c := 1) hn (.inr ⟨rfl, rfl⟩) hc4
    obtain ⟨_, hc6, rfl⟩ := cden_byte hn (.inl ⟨42, rfl, rfl⟩) hc5
    obtain ⟨_, hc7, rfl⟩ := cden_str hn (.inl ⟨40, rfl, rfl⟩) hc6
    obtain ⟨_, hc8, rfl⟩ := cden_byte (c := 0) hn (.inr ⟨rfl, rfl⟩) hc7
    obtain ⟨_, hc9, rfl⟩ := cden_byte (c := 0) hn (.inr ⟨rfl, rfl⟩) hc8
    obtain ⟨_, hc10, rfl⟩ := cden_byte (c := 0) hn (.inr ⟨rfl, rfl⟩) hc9
    obtain ⟨_, hc11, rfl⟩ := cden_byte (c := 0) hn (.inr ⟨rfl, rfl⟩) hc10
    obtain ⟨_, hc12, rfl⟩ := cden_byte (c := 0) hn (.inr ⟨rfl, rfl⟩) hc11
    obtain rfl := cden_nil hc12
    unfold textL numB
    simp only [hcx, hcm, hch]
    simp [digits, sh8]
  have hl : ∀ y ∈ fB201, FactOk Tryz.prog (nmOf (nmB x ⟨#[]⟩ h)) y := by
    intro y hy
    unfold fB201 at hy
    rcases List.mem_append.1 hy with hy | hy
    · exact lC2_ok x _ h hx1 hx2 y hy
    · exact lHB_ok x _ h hh0 hh1 y hy
  have hp := bParts_ok (x := x) (m := ⟨#[]⟩) (h := h) (by decide) hh1 hj
  obtain ⟨σ', hrun⟩ := isVal_ok (runB201 (nmOf (nmB x ⟨#[]⟩ h)))
  refine yields_tab (nmOf (nmB x ⟨#[]⟩ h)) fB201 (bParts ct201) hl hp (env_parts _ _ _ hl hp) (us := [_]) base0 (nmB_range _ _ _) (fun ι3 v' h1 h2 => ?_) (fun ι hn => ?_) hrun
  · exact VRel.chan_eq (h1 20 _ rfl) h2
  · refine .cons (VRel.agg_list (xs := [_, _, _, _, _, _, _, _]) (ys := [_, _, _, _, _, _, _, _]) (.cons (.sym 12 ⟨hn 12 _ rfl, rfl⟩) (.cons (.string _) (.cons (.sym 40 ⟨hn 40 _ rfl, rfl⟩) (.cons (.slnil 0 0) (.cons (.slnil 0 0) (.cons (.slnil 0 0) (.cons (.slnil 0 0) (.cons (.slnil 0 0) .nil))))))))) .nil

def ct210 : List Value := [.int .u8 2, .chan (some 111), .chan (some 110), .int .u8 1, .chan (some 32), .chan (some 30), .int .u8 0, .string ⟨#[]⟩, .int .u8 0, .int .u8 0, .int .u8 0, .int .u8 0, .int .u8 0]

def fB210 : List Fact := lC2 ++ lMB

theorem runB210 (nm : Nat → Option Value) : isVal (.chan (some 20)) ((@go Tryz.prog (mkTab Tryz.prog nm fB210 (bParts ct210)) (told []) 100000).call 6 [partsV (.chan (some 12)) (.chan (some 30)) (.string ⟨#[]⟩)] ⟨.nil, 1000⟩) = true := by kernel_rfl

theorem yB210 (x : Nat) (m h : ByteArray) (hx1 : 256 ≤ x) (hx2 : x < 65536) (hm0 : 0 < m.size) (hm1 : m.size ≤ 160) (hh0 : h.size = 0) : Yields Tryz.prog 6 #[partsV (I x) (.string m) (.string h)] (.string (textS x m h)) := by
  obtain rfl := size_zero hh0
  have hcx : cnt x = 2 := by
    unfold cnt; rw [if_neg (by omega), if_neg (by omega), if_pos (by omega)]
  have hcm : cnt (m : ByteArray).size = 1 := by
    unfold cnt; rw [if_neg (by omega), if_pos (by omega)]
  have hch : cnt (⟨#[]⟩ : ByteArray).size = 0 := by
    rfl
  have hj : ∀ {ι : Emb}, (∀ b v, nmOf (nmB x m ⟨#[]⟩) b = some v → ι b = .val v) → ∀ {bs : List UInt8}, CDen ι ct210 bs → bs = textL x m ⟨#[]⟩ := by
    intro ι hn bs hc0
    unfold ct210 at hc0
    obtain ⟨_, hc1, rfl⟩ := cden_byte (c := 2) hn (.inr ⟨rfl, rfl⟩) hc0
    obtain ⟨_, hc2, rfl⟩ := cden_byte hn (.inl ⟨111, rfl, rfl⟩) hc1
    obtain ⟨_, hc3, rfl⟩ := cden_byte hn (.inl ⟨110, rfl, rfl⟩) hc2
    obtain ⟨_, hc4, rfl⟩ := cden_byte (c := 1) hn (.inr ⟨rfl, rfl⟩) hc3
    obtain ⟨_, hc5, rfl⟩ := cden_byte hn (.inl ⟨32, rfl, rfl⟩) hc4
    obtain ⟨_, hc6, rfl⟩ := cden_str hn (.inl ⟨30, rfl, rfl⟩) hc5
    obtain ⟨_, hc7, rfl⟩ := cden_byte (c := 0) hn (.inr ⟨rfl, rfl⟩) hc6
    obtain ⟨_, hc8, rfl⟩ := cden_str (s := ⟨#[]⟩) hn (.inr ⟨rfl, rfl⟩) hc7
    obtain ⟨_, hc9, rfl⟩ := cden_byte (c := 0) hn (.inr ⟨rfl, rfl⟩) hc8
    obtain ⟨_, hc10, rfl⟩ := cden_byte (c := 0) hn (.inr ⟨rfl, rfl⟩) hc9
    obtain ⟨_, hc11, rfl⟩ := cden_byte (c := 0) hn (.inr ⟨rfl, rfl⟩) hc10
    obtain ⟨_, hc12, rfl⟩ := cden_byte (c := 0) hn (.inr ⟨rfl, rfl⟩) hc11
    obtain ⟨_, hc13, rfl⟩ := cden_byte (c := 0) hn (.inr ⟨rfl, rfl⟩) hc12
    obtain rfl := cden_nil hc13
    unfold textL numB
    simp only [hcx, hcm, hch]
    simp [digits, sh8]
  have hl : ∀ y ∈ fB210, FactOk Tryz.prog (nmOf (nmB x m ⟨#[]⟩)) y := by
    intro y hy
    unfold fB210 at hy
    rcases List.mem_append.1 hy with hy | hy
    · exact lC2_ok x m _ hx1 hx2 y hy
    · exact lMB_ok x m _ hm0 hm1 y hy
  have hp := bParts_ok (x := x) (m := m) (h := ⟨#[]⟩) hm1 (by decide) hj
  obtain ⟨σ', hrun⟩ := isVal_ok (runB210 (nmOf (nmB x m ⟨#[]⟩)))
  refine yields_tab (nmOf (nmB x m ⟨#[]⟩)) fB210 (bParts ct210) hl hp (env_parts _ _ _ hl hp) (us := [_]) base0 (nmB_range _ _ _) (fun ι3 v' h1 h2 => ?_) (fun ι hn => ?_) hrun
  · exact VRel.chan_eq (h1 20 _ rfl) h2
  · refine .cons (VRel.agg_list (xs := [_, _, _, _, _, _, _, _]) (ys := [_, _, _, _, _, _, _, _]) (.cons (.sym 12 ⟨hn 12 _ rfl, rfl⟩) (.cons (.sym 30 ⟨hn 30 _ rfl, rfl⟩) (.cons (.string _) (.cons (.slnil 0 0) (.cons (.slnil 0 0) (.cons (.slnil 0 0) (.cons (.slnil 0 0) (.cons (.slnil 0 0) .nil))))))))) .nil

def ct211 : List Value := [.int .u8 2, .chan (some 111), .chan (some 110), .int .u8 1, .chan (some 32), .chan (some 30), .int .u8 1, .chan (some 42), .chan (some 40), .int .u8 0, .int .u8 0, .int .u8 0, .int .u8 0, .int .u8 0]

def fB211 : List Fact := lC2 ++ lMB ++ lHB

theorem runB211 (nm : Nat → Option Value) : isVal (.chan (some 20)) ((@go Tryz.prog (mkTab Tryz.prog nm fB211 (bParts ct211)) (told []) 100000).call 6 [partsV (.chan (some 12)) (.chan (some 30)) (.chan (some 40))] ⟨.nil, 1000⟩) = true := by kernel_rfl

theorem yB211 (x : Nat) (m h : ByteArray) (hx1 : 256 ≤ x) (hx2 : x < 65536) (hm0 : 0 < m.size) (hm1 : m.size ≤ 160) (hh0 : 0 < h.size) (hh1 : h.size ≤ 160) : Yields Tryz.prog 6 #[partsV (I x) (.string m) (.string h)] (.string (textS x m h)) := by
  have hcx : cnt x = 2 := by
    unfold cnt; rw [if_neg (by omega), if_neg (by omega), if_pos (by omega)]
  have hcm : cnt (m : ByteArray).size = 1 := by
    unfold cnt; rw [if_neg (by omega), if_pos (by omega)]
  have hch : cnt (h : ByteArray).size = 1 := by
    unfold cnt; rw [if_neg (by omega), if_pos (by omega)]
  have hj : ∀ {ι : Emb}, (∀ b v, nmOf (nmB x m h) b = some v → ι b = .val v) → ∀ {bs : List UInt8}, CDen ι ct211 bs → bs = textL x m h := by
    intro ι hn bs hc0
    unfold ct211 at hc0
    obtain ⟨_, hc1, rfl⟩ := cden_byte (c := 2) hn (.inr ⟨rfl, rfl⟩) hc0
    obtain ⟨_, hc2, rfl⟩ := cden_byte hn (.inl ⟨111, rfl, rfl⟩) hc1
    obtain ⟨_, hc3, rfl⟩ := cden_byte hn (.inl ⟨110, rfl, rfl⟩) hc2
    obtain ⟨_, hc4, rfl⟩ := cden_byte (c := 1) hn (.inr ⟨rfl, rfl⟩) hc3
    obtain ⟨_, hc5, rfl⟩ := cden_byte hn (.inl ⟨32, rfl, rfl⟩) hc4
    obtain ⟨_, hc6, rfl⟩ := cden_str hn (.inl ⟨30, rfl, rfl⟩) hc5
    obtain ⟨_, hc7, rfl⟩ := cden_byte (c := 1) hn (.inr ⟨rfl, rfl⟩) hc6
    obtain ⟨_, hc8, rfl⟩ := cden_byte hn (.inl ⟨42, rfl, rfl⟩) hc7
    obtain ⟨_, hc9, rfl⟩ := cden_str hn (.inl ⟨40, rfl, rfl⟩) hc8
    obtain ⟨_, hc10, rfl⟩ := cden_byte (c := 0) hn (.inr ⟨rfl, rfl⟩) hc9
    obtain ⟨_, hc11, rfl⟩ := cden_byte (c := 0) hn (.inr ⟨rfl, rfl⟩) hc10
    obtain ⟨_, hc12, rfl⟩ := cden_byte (c := 0) hn (.inr ⟨rfl, rfl⟩) hc11
    obtain ⟨_, hc13, rfl⟩ := cden_byte (c := 0) hn (.inr ⟨rfl, rfl⟩) hc12
    obtain ⟨_, hc14, rfl⟩ := cden_byte (c := 0) hn (.inr ⟨rfl, rfl⟩) hc13
    obtain rfl := cden_nil hc14
    unfold textL numB
    simp only [hcx, hcm, hch]
    simp [digits, sh8]
  have hl : ∀ y ∈ fB211, FactOk Tryz.prog (nmOf (nmB x m h)) y := by
    intro y hy
    unfold fB211 at hy
    rcases List.mem_append.1 hy with hy | hy
    · rcases List.mem_append.1 hy with hy | hy
      · exact lC2_ok x m h hx1 hx2 y hy
      · exact lMB_ok x m h hm0 hm1 y hy
    · exact lHB_ok x m h hh0 hh1 y hy
  have hp := bParts_ok (x := x) (m := m) (h := h) hm1 hh1 hj
  obtain ⟨σ', hrun⟩ := isVal_ok (runB211 (nmOf (nmB x m h)))
  refine yields_tab (nmOf (nmB x m h)) fB211 (bParts ct211) hl hp (env_parts _ _ _ hl hp) (us := [_]) base0 (nmB_range _ _ _) (fun ι3 v' h1 h2 => ?_) (fun ι hn => ?_) hrun
  · exact VRel.chan_eq (h1 20 _ rfl) h2
  · refine .cons (VRel.agg_list (xs := [_, _, _, _, _, _, _, _]) (ys := [_, _, _, _, _, _, _, _]) (.cons (.sym 12 ⟨hn 12 _ rfl, rfl⟩) (.cons (.sym 30 ⟨hn 30 _ rfl, rfl⟩) (.cons (.sym 40 ⟨hn 40 _ rfl, rfl⟩) (.cons (.slnil 0 0) (.cons (.slnil 0 0) (.cons (.slnil 0 0) (.cons (.slnil 0 0) (.cons (.slnil 0 0) .nil))))))))) .nil

def ct300 : List Value := [.int .u8 3, .chan (some 112), .chan (some 111), .chan (some 110), .int .u8 0, .int .u8 0, .int .u8 0, .int .u8 0, .int .u8 0, .int .u8 0, .int .u8 0]

def fB300 : List Fact := lC3

theorem runB300 (nm : Nat → Option Value) : isVal (.chan (some 20)) ((@go Tryz.prog (mkTab Tryz.prog nm fB300 (bParts ct300)) (told []) 100000).call 6 [partsV (.chan (some 12)) (.string ⟨#[]⟩) (.string ⟨#[]⟩)] ⟨.nil, 1000⟩) = true := by kernel_rfl

theorem yB300 (x : Nat) (m h : ByteArray) (hx1 : 65536 ≤ x) (hx2 : x < 16777216) (hm0 : m.size = 0) (hh0 : h.size = 0) : Yields Tryz.prog 6 #[partsV (I x) (.string m) (.string h)] (.string (textS x m h)) := by
  obtain rfl := size_zero hm0
  obtain rfl := size_zero hh0
  have hcx : cnt x = 3 := by
    unfold cnt; rw [if_neg (by omega), if_neg (by omega), if_neg (by omega), if_pos (by omega)]
  have hcm : cnt (⟨#[]⟩ : ByteArray).size = 0 := by
    rfl
  have hch : cnt (⟨#[]⟩ : ByteArray).size = 0 := by
    rfl
  have hj : ∀ {ι : Emb}, (∀ b v, nmOf (nmB x ⟨#[]⟩ ⟨#[]⟩) b = some v → ι b = .val v) → ∀ {bs : List UInt8}, CDen ι ct300 bs → bs = textL x ⟨#[]⟩ ⟨#[]⟩ := by
    intro ι hn bs hc0
    unfold ct300 at hc0
    obtain ⟨_, hc1, rfl⟩ := cden_byte (c := 3) hn (.inr ⟨rfl, rfl⟩) hc0
    obtain ⟨_, hc2, rfl⟩ := cden_byte hn (.inl ⟨112, rfl, rfl⟩) hc1
    obtain ⟨_, hc3, rfl⟩ := cden_byte hn (.inl ⟨111, rfl, rfl⟩) hc2
    obtain ⟨_, hc4, rfl⟩ := cden_byte hn (.inl ⟨110, rfl, rfl⟩) hc3
    obtain ⟨_, hc5, rfl⟩ := cden_byte (c := 0) hn (.inr ⟨rfl, rfl⟩) hc4
    obtain ⟨_, hc6, rfl⟩ := cden_byte (c := 0) hn (.inr ⟨rfl, rfl⟩) hc5
    obtain ⟨_, hc7, rfl⟩ := cden_byte (c := 0) hn (.inr ⟨rfl, rfl⟩) hc6
    obtain ⟨_, hc8, rfl⟩ := cden_byte (c := 0) hn (.inr ⟨rfl, rfl⟩) hc7
    obtain ⟨_, hc9, rfl⟩ := cden_byte (c := 0) hn (.inr ⟨rfl, rfl⟩) hc8
    obtain ⟨_, hc10, rfl⟩ := cden_byte (c := 0) hn (.inr ⟨rfl, rfl⟩) hc9
    obtain ⟨_, hc11, rfl⟩ := cden_byte (c := 0) hn (.inr ⟨rfl, rfl⟩) hc10
    obtain rfl := cden_nil hc11
    unfold textL numB
    simp only [hcx, hcm, hch]
    simp [digits, sh8]
  have hl : ∀ y ∈ fB300, FactOk Tryz.prog (nmOf (nmB x ⟨#[]⟩ ⟨#[]⟩)) y := by
    intro y hy
    unfold fB300 at hy
    exact lC3_ok x _ _ hx1 hx2 y hy
  have hp := bParts_ok (x := x) (m := ⟨#[]⟩) (h := ⟨#[]⟩) (by decide) (by decide) hj
  obtain ⟨σ', hrun⟩ := isVal_ok (runB300 (nmOf (nmB x ⟨#[]⟩ ⟨#[]⟩)))
  refine yields_tab (nmOf (nmB x ⟨#[]⟩ ⟨#[]⟩)) fB300 (bParts ct300) hl hp (env_parts _ _ _ hl hp) (us := [_]) base0 (nmB_range _ _ _) (fun ι3 v' h1 h2 => ?_) (fun ι hn => ?_) hrun
  · exact VRel.chan_eq (h1 20 _ rfl) h2
  · refine .cons (VRel.agg_list (xs := [_, _, _, _, _, _, _, _]) (ys := [_, _, _, _, _, _, _, _]) (.cons (.sym 12 ⟨hn 12 _ rfl, rfl⟩) (.cons (.string _) (.cons (.string _) (.cons (.slnil 0 0) (.cons (.slnil 0 0) (.cons (.slnil 0 0) (.cons (.slnil 0 0) (.cons (.slnil 0 0) .nil))))))))) .nil

def ct301 : List Value := [.int .u8 3, .chan (some 112), .chan (some 111), .chan (some 110), .int .u8 0, .int .u8 1, .chan (some 42), .chan (some 40), .int .u8 0, .int .u8 0, .int .u8 0, .int .u8 0, .int .u8 0]

def fB301 : List Fact := lC3 ++ lHB

theorem runB301 (nm : Nat → Option Value) : isVal (.chan (some 20)) ((@go Tryz.prog (mkTab Tryz.prog nm fB301 (bParts ct301)) (told []) 100000).call 6 [partsV (.chan (some 12)) (.string ⟨#[]⟩) (.chan (some 40))] ⟨.nil, 1000⟩) = true := by kernel_rfl

theorem yB301 (x : Nat) (m h : ByteArray) (hx1 : 65536 ≤ x) (hx2 : x < 16777216) (hm0 : m.size = 0) (hh0 : 0 < h.size) (hh1 : h.size ≤ 160) : Yields Tryz.prog 6 #[partsV (I x) (.string m) (.string h)] (.string (textS x m h)) := by
  obtain rfl := size_zero hm0
  have hcx : cnt x = 3 := by
    unfold cnt; rw [if_neg (by omega), if_neg (by omega), if_neg (by omega), if_pos (by omega)]
  have hcm : cnt (⟨#[]⟩ : ByteArray).size = 0 := by
    rfl
  have hch : cnt (h : ByteArray).size = 1 := by
    unfold cnt; rw [if_neg (by omega), if_pos (by omega)]
  have hj : ∀ {ι : Emb}, (∀ b v, nmOf (nmB x ⟨#[]⟩ h) b = some v → ι b = .val v) → ∀ {bs : List UInt8}, CDen ι ct301 bs → bs = textL x ⟨#[]⟩ h := by
    intro ι hn bs hc0
    unfold ct301 at hc0
    obtain ⟨_, hc1, rfl⟩ := cden_byte (c := 3) hn (.inr ⟨rfl, rfl⟩) hc0
    obtain ⟨_, hc2, rfl⟩ := cden_byte hn (.inl ⟨112, rfl, rfl⟩) hc1
    obtain ⟨_, hc3, rfl⟩ := cden_byte hn (.inl ⟨111, rfl, rfl⟩) hc2
    obtain ⟨_, hc4, rfl⟩ := cden_byte hn (.inl ⟨110, rfl, rfl⟩) hc3
    obtain ⟨_, hc5, rfl⟩ := cden_byte (c := 0) hn (.inr ⟨rfl, rfl⟩) hc4
    obtain ⟨_, hc6, rfl⟩ := cden_byte (c := 1) hn (.inr ⟨rfl, rfl⟩) hc5
    obtain ⟨_, hc7, rfl⟩ := cden_byte hn (.inl ⟨42, rfl, rfl⟩) hc6
    obtain ⟨_, hc8, rfl⟩ := cden_str hn (.inl ⟨40, rfl, rfl⟩) hc7
    obtain ⟨_, hc9, rfl⟩ := cden_byte (c := 0) hn (.inr ⟨rfl, rfl⟩) hc8
    obtain ⟨_, hc10, rfl⟩ := cden_byte (c := 0) hn (.inr ⟨rfl, rfl⟩) hc9
    obtain ⟨_, hc11, rfl⟩ := cden_byte (c := 0) hn (.inr ⟨rfl, rfl⟩) hc10
    obtain ⟨_, hc12, rfl⟩ := cden_byte (c := 0) hn (.inr ⟨rfl, rfl⟩) hc11
    obtain ⟨_, hc13, rfl⟩ := cden_byte (c := 0) hn (.inr ⟨rfl, rfl⟩) hc12
    obtain rfl := cden_nil hc13
    unfold textL numB
    simp only [hcx, hcm, hch]
    simp [digits, sh8]
  have hl : ∀ y ∈ fB301, FactOk Tryz.prog (nmOf (nmB x ⟨#[]⟩ h)) y := by
    intro y hy
    unfold fB301 at hy
    rcases List.mem_append.1 hy with hy | hy
    · exact lC3_ok x _ h hx1 hx2 y hy
    · exact lHB_ok x _ h hh0 hh1 y hy
  have hp := bParts_ok (x := x) (m := ⟨#[]⟩) (h := h) (by decide) hh1 hj
  obtain ⟨σ', hrun⟩ := isVal_ok (runB301 (nmOf (nmB x ⟨#[]⟩ h)))
  refine yields_tab (nmOf (nmB x ⟨#[]⟩ h)) fB301 (bParts ct301) hl hp (env_parts _ _ _ hl hp) (us := [_]) base0 (nmB_range _ _ _) (fun ι3 v' h1 h2 => ?_) (fun ι hn => ?_) hrun
  · exact VRel.chan_eq (h1 20 _ rfl) h2
  · refine .cons (VRel.agg_list (xs := [_, _, _, _, _, _, _, _]) (ys := [_, _, _, _, _, _, _, _]) (.cons (.sym 12 ⟨hn 12 _ rfl, rfl⟩) (.cons (.string _) (.cons (.sym 40 ⟨hn 40 _ rfl, rfl⟩) (.cons (.slnil 0 0) (.cons (.slnil 0 0) (.cons (.slnil 0 0) (.cons (.slnil 0 0) (.cons (.slnil 0 0) .nil))))))))) .nil

def ct310 : List Value := [.int .u8 3, .chan (some 112), .chan (some 111), .chan (some 110), .int .u8 1, .chan (some 32), .chan (some 30), .int .u8 0, .string ⟨#[]⟩, .int .u8 0, .int .u8 0, .int .u8 0, .int .u8 0, .int .u8 0]

def fB310 : List Fact := lC3 ++ lMB

theorem runB310 (nm : Nat → Option Value) : isVal (.chan (some 20)) ((@go Tryz.prog (mkTab Tryz.prog nm fB310 (bParts ct310)) (told []) 100000).call 6 [partsV (.chan (some 12)) (.chan (some 30)) (.string ⟨#[]⟩)] ⟨.nil, 1000⟩) = true := by kernel_rfl

theorem yB310 (x : Nat) (m h : ByteArray) (hx1 : 65536 ≤ x) (hx2 : x < 16777216) (hm0 : 0 < m.size) (hm1 : m.size ≤ 160) (hh0 : h.size = 0) : Yields Tryz.prog 6 #[partsV (I x) (.string m) (.string h)] (.string (textS x m h)) := by
  obtain rfl := size_zero hh0
  have hcx : cnt x = 3 := by
    unfold cnt; rw [if_neg (by omega), if_neg (by omega), if_neg (by omega), if_pos (by omega)]
  have hcm : cnt (m : ByteArray).size = 1 := by
    unfold cnt; rw [if_neg (by omega), if_pos (by omega)]
  have hch : cnt (⟨#[]⟩ : ByteArray).size = 0 := by
    rfl
  have hj : ∀ {ι : Emb}, (∀ b v, nmOf (nmB x m ⟨#[]⟩) b = some v → ι b = .val v) → ∀ {bs : List UInt8}, CDen ι ct310 bs → bs = textL x m ⟨#[]⟩ := by
    intro ι hn bs hc0
    unfold ct310 at hc0
    obtain ⟨_, hc1, rfl⟩ := cden_byte (c := 3) hn (.inr ⟨rfl, rfl⟩) hc0
    obtain ⟨_, hc2, rfl⟩ := cden_byte hn (.inl ⟨112, rfl, rfl⟩) hc1
    obtain ⟨_, hc3, rfl⟩ := cden_byte hn (.inl ⟨111, rfl, rfl⟩) hc2
    obtain ⟨_, hc4, rfl⟩ := cden_byte hn (.inl ⟨110, rfl, rfl⟩) hc3
    obtain ⟨_, hc5, rfl⟩ := cden_byte (c := 1) hn (.inr ⟨rfl, rfl⟩) hc4
    obtain ⟨_, hc6, rfl⟩ := cden_byte hn (.inl ⟨32, rfl, rfl⟩) hc5
    obtain ⟨_, hc7, rfl⟩ := cden_str hn (.inl ⟨30, rfl, rfl⟩) hc6
    obtain ⟨_, hc8, rfl⟩ := cden_byte (c := 0) hn (.inr ⟨rfl, rfl⟩) hc7
    obtain ⟨_, hc9, rfl⟩ := cden_str (s := ⟨#[]⟩) hn (.inr ⟨rfl, rfl⟩) hc8
    obtain ⟨_, hc10, rfl⟩ := cden_byte (c := 0) hn (.inr ⟨rfl, rfl⟩) hc9
    obtain ⟨_, hc11, rfl⟩ := cden_byte (c := 0) hn (.inr ⟨rfl, rfl⟩) hc10
    obtain ⟨_, hc12, rfl⟩ := cden_byte (c := 0) hn (.inr ⟨rfl, rfl⟩) hc11
    obtain ⟨_, hc13, rfl⟩ := cden_byte (c := 0) hn (.inr ⟨rfl, rfl⟩) hc12
    obtain ⟨_, hc14, rfl⟩ := cden_byte (c := 0) hn (.inr ⟨rfl, rfl⟩) hc13
    obtain rfl := cden_nil hc14
    unfold textL numB
    simp only [hcx, hcm, hch]
    simp [digits, sh8]
  have hl : ∀ y ∈ fB310, FactOk Tryz.prog (nmOf (nmB x m ⟨#[]⟩)) y := by
    intro y hy
    unfold fB310 at hy
    rcases List.mem_append.1 hy with hy | hy
    · exact lC3_ok x m _ hx1 hx2 y hy
    · exact lMB_ok x m _ hm0 hm1 y hy
  have hp := bParts_ok (x := x) (m := m) (h := ⟨#[]⟩) hm1 (by decide) hj
  obtain ⟨σ', hrun⟩ := isVal_ok (runB310 (nmOf (nmB x m ⟨#[]⟩)))
  refine yields_tab (nmOf (nmB x m ⟨#[]⟩)) fB310 (bParts ct310) hl hp (env_parts _ _ _ hl hp) (us := [_]) base0 (nmB_range _ _ _) (fun ι3 v' h1 h2 => ?_) (fun ι hn => ?_) hrun
  · exact VRel.chan_eq (h1 20 _ rfl) h2
  · refine .cons (VRel.agg_list (xs := [_, _, _, _, _, _, _, _]) (ys := [_, _, _, _, _, _, _, _]) (.cons (.sym 12 ⟨hn 12 _ rfl, rfl⟩) (.cons (.sym 30 ⟨hn 30 _ rfl, rfl⟩) (.cons (.string _) (.cons (.slnil 0 0) (.cons (.slnil 0 0) (.cons (.slnil 0 0) (.cons (.slnil 0 0) (.cons (.slnil 0 0) .nil))))))))) .nil

def ct311 : List Value := [.int .u8 3, .chan (some 112), .chan (some 111), .chan (some 110), .int .u8 1, .chan (some 32), .chan (some 30), .int .u8 1, .chan (some 42), .chan (some 40), .int .u8 0, .int .u8 0, .int .u8 0, .int .u8 0, .int .u8 0]

def fB311 : List Fact := lC3 ++ lMB ++ lHB

theorem runB311 (nm : Nat → Option Value) : isVal (.chan (some 20)) ((@go Tryz.prog (mkTab Tryz.prog nm fB311 (bParts ct311)) (told []) 100000).call 6 [partsV (.chan (some 12)) (.chan (some 30)) (.chan (some 40))] ⟨.nil, 1000⟩) = true := by kernel_rfl

theorem yB311 (x : Nat) (m h : ByteArray) (hx1 : 65536 ≤ x) (hx2 : x < 16777216) (hm0 : 0 < m.size) (hm1 : m.size ≤ 160) (hh0 : 0 < h.size) (hh1 : h.size ≤ 160) : Yields Tryz.prog 6 #[partsV (I x) (.string m) (.string h)] (.string (textS x m h)) := by
  have hcx : cnt x = 3 := by
    unfold cnt; rw [if_neg (by omega), if_neg (by omega), if_neg (by omega), if_pos (by omega)]
  have hcm : cnt (m : ByteArray).size = 1 := by
    unfold cnt; rw [if_neg (by omega), if_pos (by omega)]
  have hch : cnt (h : ByteArray).size = 1 := by
    unfold cnt; rw [if_neg (by omega), if_pos (by omega)]
  have hj : ∀ {ι : Emb}, (∀ b v, nmOf (nmB x m h) b = some v → ι b = .val v) → ∀ {bs : List UInt8}, CDen ι ct311 bs → bs = textL x m h := by
    intro ι hn bs hc0
    unfold ct311 at hc0
    obtain ⟨_, hc1, rfl⟩ := cden_byte (c := 3) hn (.inr ⟨rfl, rfl⟩) hc0
    obtain ⟨_, hc2, rfl⟩ := cden_byte hn (.inl ⟨112, rfl, rfl⟩) hc1
    obtain ⟨_, hc3, rfl⟩ := cden_byte hn (.inl ⟨111, rfl, rfl⟩) hc2
    obtain ⟨_, hc4, rfl⟩ := cden_byte hn (.inl ⟨110, rfl, rfl⟩) hc3
    obtain ⟨_, hc5, rfl⟩ := cden_byte (c := 1) hn (.inr ⟨rfl, rfl⟩) hc4
    obtain ⟨_, hc6, rfl⟩ := cden_byte hn (.inl ⟨32, rfl, rfl⟩) hc5
    obtain ⟨_, hc7, rfl⟩ := cden_str hn (.inl ⟨30, rfl, rfl⟩) hc6
    obtain ⟨_, hc8, rfl⟩ := cden_byte (c := 1) hn (.inr ⟨rfl, rfl⟩) hc7
    obtain ⟨_, hc9, rfl⟩ := cden_byte hn (.inl ⟨42, rfl, rfl⟩) hc8
    obtain ⟨_, hc10, rfl⟩ := cden_str hn (.inl ⟨40, rfl, rfl⟩) hc9
    obtain ⟨_, hc11, rfl⟩ := cden_byte (c := 0) hn (.inr ⟨rfl, rfl⟩) hc10
    obtain ⟨_, hc12, rfl⟩ := cden_byte (c := 0) hn (.inr ⟨rfl, rfl⟩) hc11
    obtain ⟨_, hc13, rfl⟩ := cden_byte (c := 0) hn (.inr ⟨rfl, rfl⟩) hc12
    obtain ⟨_, hc14, rfl⟩ := cden_byte (c := 0) hn (.inr ⟨rfl, rfl⟩) hc13
    obtain ⟨_, hc15, rfl⟩ := cden_byte (c := 0) hn (.inr ⟨rfl, rfl⟩) hc14
    obtain rfl := cden_nil hc15
    unfold textL numB
    simp only [hcx, hcm, hch]
    simp [digits, sh8]
  have hl : ∀ y ∈ fB311, FactOk Tryz.prog (nmOf (nmB x m h)) y := by
    intro y hy
    unfold fB311 at hy
    rcases List.mem_append.1 hy with hy | hy
    · rcases List.mem_append.1 hy with hy | hy
      · exact lC3_ok x m h hx1 hx2 y hy
      · exact lMB_ok x m h hm0 hm1 y hy
    · exact lHB_ok x m h hh0 hh1 y hy
  have hp := bParts_ok (x := x) (m := m) (h := h) hm1 hh1 hj
  obtain ⟨σ', hrun⟩ := isVal_ok (runB311 (nmOf (nmB x m h)))
  refine yields_tab (nmOf (nmB x m h)) fB311 (bParts ct311) hl hp (env_parts _ _ _ hl hp) (us := [_]) base0 (nmB_range _ _ _) (fun ι3 v' h1 h2 => ?_) (fun ι hn => ?_) hrun
  · exact VRel.chan_eq (h1 20 _ rfl) h2
  · refine .cons (VRel.agg_list (xs := [_, _, _, _, _, _, _, _]) (ys := [_, _, _, _, _, _, _, _]) (.cons (.sym 12 ⟨hn 12 _ rfl, rfl⟩) (.cons (.sym 30 ⟨hn 30 _ rfl, rfl⟩) (.cons (.sym 40 ⟨hn 40 _ rfl, rfl⟩) (.cons (.slnil 0 0) (.cons (.slnil 0 0) (.cons (.slnil 0 0) (.cons (.slnil 0 0) (.cons (.slnil 0 0) .nil))))))))) .nil

def ct400 : List Value := [.int .u8 4, .chan (some 113), .chan (some 112), .chan (some 111), .chan (some 110), .int .u8 0, .int .u8 0, .int .u8 0, .int .u8 0, .int .u8 0, .int .u8 0, .int .u8 0]

def fB400 : List Fact := lC4

theorem runB400 (nm : Nat → Option Value) : isVal (.chan (some 20)) ((@go Tryz.prog (mkTab Tryz.prog nm fB400 (bParts ct400)) (told []) 100000).call 6 [partsV (.chan (some 12)) (.string ⟨#[]⟩) (.string ⟨#[]⟩)] ⟨.nil, 1000⟩) = true := by kernel_rfl

theorem yB400 (x : Nat) (m h : ByteArray) (hx1 : 16777216 ≤ x) (hx2 : x < 4294967296) (hm0 : m.size = 0) (hh0 : h.size = 0) : Yields Tryz.prog 6 #[partsV (I x) (.string m) (.string h)] (.string (textS x m h)) := by
  obtain rfl := size_zero hm0
  obtain rfl := size_zero hh0
  have hcx : cnt x = 4 := by
    unfold cnt; rw [if_neg (by omega), if_neg (by omega), if_neg (by omega), if_neg (by omega)]
  have hcm : cnt (⟨#[]⟩ : ByteArray).size = 0 := by
    rfl
  have hch : cnt (⟨#[]⟩ : ByteArray).size = 0 := by
    rfl
  have hj : ∀ {ι : Emb}, (∀ b v, nmOf (nmB x ⟨#[]⟩ ⟨#[]⟩) b = some v → ι b = .val v) → ∀ {bs : List UInt8}, CDen ι ct400 bs → bs = textL x ⟨#[]⟩ ⟨#[]⟩ := by
    intro ι hn bs hc0
    unfold ct400 at hc0
    obtain ⟨_, hc1, rfl⟩ := cden_byte (c := 4) hn (.inr ⟨rfl, rfl⟩) hc0
    obtain ⟨_, hc2, rfl⟩ := cden_byte hn (.inl ⟨113, rfl, rfl⟩) hc1
    obtain ⟨_, hc3, rfl⟩ := cden_byte hn (.inl ⟨112, rfl, rfl⟩) hc2
    obtain ⟨_, hc4, rfl⟩ := cden_byte hn (.inl ⟨111, rfl, rfl⟩) hc3
    obtain ⟨_, hc5, rfl⟩ := cden_byte hn (.inl ⟨110, rfl, rfl⟩) hc4
    obtain ⟨_, hc6, rfl⟩ := cden_byte (c := 0) hn (.inr ⟨rfl, rfl⟩) hc5
    obtain ⟨_, hc7, rfl⟩ := cden_byte (c := 0) hn (.inr ⟨rfl, rfl⟩) hc6
    obtain ⟨_, hc8, rfl⟩ := cden_byte (c := 0) hn (.inr ⟨rfl, rfl⟩) hc7
    obtain ⟨_, hc9, rfl⟩ := cden_byte (c := 0) hn (.inr ⟨rfl, rfl⟩) hc8
    obtain ⟨_, hc10, rfl⟩ := cden_byte (c := 0) hn (.inr ⟨rfl, rfl⟩) hc9
    obtain ⟨_, hc11, rfl⟩ := cden_byte (c := 0) hn (.inr ⟨rfl, rfl⟩) hc10
    obtain ⟨_, hc12, rfl⟩ := cden_byte (c := 0) hn (.inr ⟨rfl, rfl⟩) hc11
    obtain rfl := cden_nil hc12
    unfold textL numB
    simp only [hcx, hcm, hch]
    simp [digits, sh8]
  have hl : ∀ y ∈ fB400, FactOk Tryz.prog (nmOf (nmB x ⟨#[]⟩ ⟨#[]⟩)) y := by
    intro y hy
    unfold fB400 at hy
    exact lC4_ok x _ _ hx1 hx2 y hy
  have hp := bParts_ok (x := x) (m := ⟨#[]⟩) (h := ⟨#[]⟩) (by decide) (by decide) hj
  obtain ⟨σ', hrun⟩ := isVal_ok (runB400 (nmOf (nmB x ⟨#[]⟩ ⟨#[]⟩)))
  refine yields_tab (nmOf (nmB x ⟨#[]⟩ ⟨#[]⟩)) fB400 (bParts ct400) hl hp (env_parts _ _ _ hl hp) (us := [_]) base0 (nmB_range _ _ _) (fun ι3 v' h1 h2 => ?_) (fun ι hn => ?_) hrun
  · exact VRel.chan_eq (h1 20 _ rfl) h2
  · refine .cons (VRel.agg_list (xs := [_, _, _, _, _, _, _, _]) (ys := [_, _, _, _, _, _, _, _]) (.cons (.sym 12 ⟨hn 12 _ rfl, rfl⟩) (.cons (.string _) (.cons (.string _) (.cons (.slnil 0 0) (.cons (.slnil 0 0) (.cons (.slnil 0 0) (.cons (.slnil 0 0) (.cons (.slnil 0 0) .nil))))))))) .nil

def ct401 : List Value := [.int .u8 4, .chan (some 113), .chan (some 112), .chan (some 111), .chan (some 110), .int .u8 0, .int .u8 1, .chan (some 42), .chan (some 40), .int .u8 0, .int .u8 0, .int .u8 0, .int .u8 0, .int .u8 0]

def fB401 : List Fact := lC4 ++ lHB

theorem runB401 (nm : Nat → Option Value) : isVal (.chan (some 20)) ((@go Tryz.prog (mkTab Tryz.prog nm fB401 (bParts ct401)) (told []) 100000).call 6 [partsV (.chan (some 12)) (.string ⟨#[]⟩) (.chan (some 40))] ⟨.nil, 1000⟩) = true := by kernel_rfl

theorem yB401 (x : Nat) (m h : ByteArray) (hx1 : 16777216 ≤ x) (hx2 : x < 4294967296) (hm0 : m.size = 0) (hh0 : 0 < h.size) (hh1 : h.size ≤ 160) : Yields Tryz.prog 6 #[partsV (I x) (.string m) (.string h)] (.string (textS x m h)) := by
  obtain rfl := size_zero hm0
  have hcx : cnt x = 4 := by
    unfold cnt; rw [if_neg (by omega), if_neg (by omega), if_neg (by omega), if_neg (by omega)]
  have hcm : cnt (⟨#[]⟩ : ByteArray).size = 0 := by
    rfl
  have hch : cnt (h : ByteArray).size = 1 := by
    unfold cnt; rw [if_neg (by omega), if_pos (by omega)]
  have hj : ∀ {ι : Emb}, (∀ b v, nmOf (nmB x ⟨#[]⟩ h) b = some v → ι b = .val v) → ∀ {bs : List UInt8}, CDen ι ct401 bs → bs = textL x ⟨#[]⟩ h := by
    intro ι hn bs hc0
    unfold ct401 at hc0
    obtain ⟨_, hc1, rfl⟩ := cden_byte (c := 4) hn (.inr ⟨rfl, rfl⟩) hc0
    obtain ⟨_, hc2, rfl⟩ := cden_byte hn (.inl ⟨113, rfl, rfl⟩) hc1
    obtain ⟨_, hc3, rfl⟩ := cden_byte hn (.inl ⟨112, rfl, rfl⟩) hc2
    obtain ⟨_, hc4, rfl⟩ := cden_byte hn (.inl ⟨111, rfl, rfl⟩) hc3
    obtain ⟨_, hc5, rfl⟩ := cden_byte hn (.inl ⟨110, rfl, rfl⟩) hc4
    obtain ⟨_, hc6, rfl⟩ := cden_byte (c := 0) hn (.inr ⟨rfl, rfl⟩) hc5
    obtain ⟨_, hc7, rfl⟩ := cden_byte (c := 1) hn (.inr ⟨rfl, rfl⟩) hc6
    obtain ⟨_, hc8, rfl⟩ := cden_byte hn (.inl ⟨42, rfl, rfl⟩) hc7
    obtain ⟨_, hc9, rfl⟩ := cden_str hn (.inl ⟨40, rfl, rfl⟩) hc8
    obtain ⟨_, hc10, rfl⟩ := cden_byte (c := 0) hn (.inr ⟨rfl, rfl⟩) hc9
    obtain ⟨_, hc11, rfl⟩ := cden_byte (c := 0) hn (.inr ⟨rfl, rfl⟩) hc10
    obtain ⟨_, hc12, rfl⟩ := cden_byte (c := 0) hn (.inr ⟨rfl, rfl⟩) hc11
    obtain ⟨_, hc13, rfl⟩ := cden_byte (c := 0) hn (.inr ⟨rfl, rfl⟩) hc12
    obtain ⟨_, hc14, rfl⟩ := cden_byte (c := 0) hn (.inr ⟨rfl, rfl⟩) hc13
    obtain rfl := cden_nil hc14
    unfold textL numB
    simp only [hcx, hcm, hch]
    simp [digits, sh8]
  have hl : ∀ y ∈ fB401, FactOk Tryz.prog (nmOf (nmB x ⟨#[]⟩ h)) y := by
    intro y hy
    unfold fB401 at hy
    rcases List.mem_append.1 hy with hy | hy
    · exact lC4_ok x _ h hx1 hx2 y hy
    · exact lHB_ok x _ h hh0 hh1 y hy
  have hp := bParts_ok (x := x) (m := ⟨#[]⟩) (h := h) (by decide) hh1 hj
  obtain ⟨σ', hrun⟩ := isVal_ok (runB401 (nmOf (nmB x ⟨#[]⟩ h)))
  refine yields_tab (nmOf (nmB x ⟨#[]⟩ h)) fB401 (bParts ct401) hl hp (env_parts _ _ _ hl hp) (us := [_]) base0 (nmB_range _ _ _) (fun ι3 v' h1 h2 => ?_) (fun ι hn => ?_) hrun
  · exact VRel.chan_eq (h1 20 _ rfl) h2
  · refine .cons (VRel.agg_list (xs := [_, _, _, _, _, _, _, _]) (ys := [_, _, _, _, _, _, _, _]) (.cons (.sym 12 ⟨hn 12 _ rfl, rfl⟩) (.cons (.string _) (.cons (.sym 40 ⟨hn 40 _ rfl, rfl⟩) (.cons (.slnil 0 0) (.cons (.slnil 0 0) (.cons (.slnil 0 0) (.cons (.slnil 0 0) (.cons (.slnil 0 0) .nil))))))))) .nil

def ct410 : List Value := [.int .u8 4, .chan (some 113), .chan (some 112), .chan (some 111), .chan (some 110), .int .u8 1, .chan (some 32), .chan (some 30), .int .u8 0, .string ⟨#[]⟩, .int .u8 0, .int .u8 0, .int .u8 0, .int .u8 0, .int .u8 0]

def fB410 : List Fact := lC4 ++ lMB

theorem runB410 (nm : Nat → Option Value) : isVal (.chan (some 20)) ((@go Tryz.prog (mkTab Tryz.prog nm fB410 (bParts ct410)) (told []) 100000).call 6 [partsV (.chan (some 12)) (.chan (some 30)) (.string ⟨#[]⟩)] ⟨.nil, 1000⟩) = true := by kernel_rfl

theorem yB410 (x : Nat) (m h : ByteArray) (hx1 : 16777216 ≤ x) (hx2 : x < 4294967296) (hm0 : 0 < m.size) (hm1 : m.size ≤ 160) (hh0 : h.size = 0) : Yields Tryz.prog 6 #[partsV (I x) (.string m) (.string h)] (.string (textS x m h)) := by
  obtain rfl := size_zero hh0
  have hcx : cnt x = 4 := by
    unfold cnt; rw [if_neg (by omega), if_neg (by omega), if_neg (by omega), if_neg (by omega)]
  have hcm : cnt (m : ByteArray).size = 1 := by
    unfold cnt; rw [if_neg (by omega), if_pos (by omega)]
  have hch : cnt (⟨#[]⟩ : ByteArray).size = 0 := by
    rfl
  have hj : ∀ {ι : Emb}, (∀ b v, nmOf (nmB x m ⟨#[]⟩) b = some v → ι b = .val v) → ∀ {bs : List UInt8}, CDen ι ct410 bs → bs = textL x m ⟨#[]⟩ := by
    intro ι hn bs hc0
    unfold ct410 at hc0
    obtain ⟨_, hc1, rfl⟩ := cden_byte (c := 4) hn (.inr ⟨rfl, rfl⟩) hc0
    obtain ⟨_, hc2, rfl⟩ := cden_byte hn (.inl ⟨113, rfl, rfl⟩) hc1
    obtain ⟨_, hc3, rfl⟩ := cden_byte hn (.inl ⟨112, rfl, rfl⟩) hc2
    obtain ⟨_, hc4, rfl⟩ := cden_byte hn (.inl ⟨111, rfl, rfl⟩) hc3
    obtain ⟨_, hc5, rfl⟩ := cden_byte hn (.inl ⟨110, rfl, rfl⟩) hc4
    obtain ⟨_, hc6, rfl⟩ := cden_byte (c := 1) hn (.inr ⟨rfl, rfl⟩) hc5
    obtain ⟨_, hc7, rfl⟩ := cden_byte hn (.inl ⟨32, rfl, rfl⟩) hc6
    obtain ⟨_, hc8, rfl⟩ := cden_str hn (.inl ⟨30, rfl, rfl⟩) hc7
    obtain ⟨_, hc9, rfl⟩ := cden_byte (c := 0) hn (.inr ⟨rfl, rfl⟩) hc8
    obtain ⟨_, hc10, rfl⟩ := cden_str (s := ⟨#[]⟩) hn (.inr ⟨rfl, rfl⟩) hc9
    obtain ⟨_, hc11, rfl⟩ := cden_byte (c := 0) hn (.inr ⟨rfl, rfl⟩) hc10
    obtain ⟨_, hc12, rfl⟩ := cden_byte (c := 0) hn (.inr ⟨rfl, rfl⟩) hc11
    obtain ⟨_, hc13, rfl⟩ := cden_byte (c := 0) hn (.inr ⟨rfl, rfl⟩) hc12
    obtain ⟨_, hc14, rfl⟩ := cden_byte (c := 0) hn (.inr ⟨rfl, rfl⟩) hc13
    obtain ⟨_, hc15, rfl⟩ := cden_byte (c := 0) hn (.inr ⟨rfl, rfl⟩) hc14
    obtain rfl := cden_nil hc15
    unfold textL numB
    simp only [hcx, hcm, hch]
    simp [digits, sh8]
  have hl : ∀ y ∈ fB410, FactOk Tryz.prog (nmOf (nmB x m ⟨#[]⟩)) y := by
    intro y hy
    unfold fB410 at hy
    rcases List.mem_append.1 hy with hy | hy
    · exact lC4_ok x m _ hx1 hx2 y hy
    · exact lMB_ok x m _ hm0 hm1 y hy
  have hp := bParts_ok (x := x) (m := m) (h := ⟨#[]⟩) hm1 (by decide) hj
  obtain ⟨σ', hrun⟩ := isVal_ok (runB410 (nmOf (nmB x m ⟨#[]⟩)))
  refine yields_tab (nmOf (nmB x m ⟨#[]⟩)) fB410 (bParts ct410) hl hp (env_parts _ _ _ hl hp) (us := [_]) base0 (nmB_range _ _ _) (fun ι3 v' h1 h2 => ?_) (fun ι hn => ?_) hrun
  · exact VRel.chan_eq (h1 20 _ rfl) h2
  · refine .cons (VRel.agg_list (xs := [_, _, _, _, _, _, _, _]) (ys := [_, _, _, _, _, _, _, _]) (.cons (.sym 12 ⟨hn 12 _ rfl, rfl⟩) (.cons (.sym 30 ⟨hn 30 _ rfl, rfl⟩) (.cons (.string _) (.cons (.slnil 0 0) (.cons (.slnil 0 0) (.cons (.slnil 0 0) (.cons (.slnil 0 0) (.cons (.slnil 0 0) .nil))))))))) .nil

def ct411 : List Value := [.int .u8 4, .chan (some 113), .chan (some 112), .chan (some 111), .chan (some 110), .int .u8 1, .chan (some 32), .chan (some 30), .int .u8 1, .chan (some 42), .chan (some 40), .int .u8 0, .int .u8 0, .int .u8 0, .int .u8 0, .int .u8 0]

def fB411 : List Fact := lC4 ++ lMB ++ lHB

theorem runB411 (nm : Nat → Option Value) : isVal (.chan (some 20)) ((@go Tryz.prog (mkTab Tryz.prog nm fB411 (bParts ct411)) (told []) 100000).call 6 [partsV (.chan (some 12)) (.chan (some 30)) (.chan (some 40))] ⟨.nil, 1000⟩) = true := by kernel_rfl

theorem yB411 (x : Nat) (m h : ByteArray) (hx1 : 16777216 ≤ x) (hx2 : x < 4294967296) (hm0 : 0 < m.size) (hm1 : m.size ≤ 160) (hh0 : 0 < h.size) (hh1 : h.size ≤ 160) : Yields Tryz.prog 6 #[partsV (I x) (.string m) (.string h)] (.string (textS x m h)) := by
  have hcx : cnt x = 4 := by
    unfold cnt; rw [if_neg (by omega), if_neg (by omega), if_neg (by omega), if_neg (by omega)]
  have hcm : cnt (m : ByteArray).size = 1 := by
    unfold cnt; rw [if_neg (by omega), if_pos (by omega)]
  have hch : cnt (h : ByteArray).size = 1 := by
    unfold cnt; rw [if_neg (by omega), if_pos (by omega)]
  have hj : ∀ {ι : Emb}, (∀ b v, nmOf (nmB x m h) b = some v → ι b = .val v) → ∀ {bs : List UInt8}, CDen ι ct411 bs → bs = textL x m h := by
    intro ι hn bs hc0
    unfold ct411 at hc0
    obtain ⟨_, hc1, rfl⟩ := cden_byte (c := 4) hn (.inr ⟨rfl, rfl⟩) hc0
    obtain ⟨_, hc2, rfl⟩ := cden_byte hn (.inl ⟨113, rfl, rfl⟩) hc1
    obtain ⟨_, hc3, rfl⟩ := cden_byte hn (.inl ⟨112, rfl, rfl⟩) hc2
    obtain ⟨_, hc4, rfl⟩ := cden_byte hn (.inl ⟨111, rfl, rfl⟩) hc3
    obtain ⟨_, hc5, rfl⟩ := cden_byte hn (.inl ⟨110, rfl, rfl⟩) hc4
    obtain ⟨_, hc6, rfl⟩ := cden_byte (c := 1) hn (.inr ⟨rfl, rfl⟩) hc5
    obtain ⟨_, hc7, rfl⟩ := cden_byte hn (.inl ⟨32, rfl, rfl⟩) hc6
    obtain ⟨_, hc8, rfl⟩ := cden_str hn (.inl ⟨30, rfl, rfl⟩) hc7
    obtain ⟨_, hc9, rfl⟩ := cden_byte (c := 1) hn (.inr ⟨rfl, rfl⟩) hc8
    obtain ⟨_, hc10, rfl⟩ := cden_byte hn (.inl ⟨42, rfl, rfl⟩) hc9
    obtain ⟨_, hc11, rfl⟩ := cden_str hn (.inl ⟨40, rfl, rfl⟩) hc10
    obtain ⟨_, hc12, rfl⟩ := cden_byte (c := 0) hn (.inr ⟨rfl, rfl⟩) hc11
    obtain ⟨_, hc13, rfl⟩ := cden_byte (c := 0) hn (.inr ⟨rfl, rfl⟩) hc12
    obtain ⟨_, hc14, rfl⟩ := cden_byte (c := 0) hn (.inr ⟨rfl, rfl⟩) hc13
    obtain ⟨_, hc15, rfl⟩ := cden_byte (c := 0) hn (.inr ⟨rfl, rfl⟩) hc14
    obtain ⟨_, hc16, rfl⟩ := cden_byte (c := 0) hn (.inr ⟨rfl, rfl⟩) hc15
    obtain rfl := cden_nil hc16
    unfold textL numB
    simp only [hcx, hcm, hch]
    simp [digits, sh8]
  have hl : ∀ y ∈ fB411, FactOk Tryz.prog (nmOf (nmB x m h)) y := by
    intro y hy
    unfold fB411 at hy
    rcases List.mem_append.1 hy with hy | hy
    · rcases List.mem_append.1 hy with hy | hy
      · exact lC4_ok x m h hx1 hx2 y hy
      · exact lMB_ok x m h hm0 hm1 y hy
    · exact lHB_ok x m h hh0 hh1 y hy
  have hp := bParts_ok (x := x) (m := m) (h := h) hm1 hh1 hj
  obtain ⟨σ', hrun⟩ := isVal_ok (runB411 (nmOf (nmB x m h)))
  refine yields_tab (nmOf (nmB x m h)) fB411 (bParts ct411) hl hp (env_parts _ _ _ hl hp) (us := [_]) base0 (nmB_range _ _ _) (fun ι3 v' h1 h2 => ?_) (fun ι hn => ?_) hrun
  · exact VRel.chan_eq (h1 20 _ rfl) h2
  · refine .cons (VRel.agg_list (xs := [_, _, _, _, _, _, _, _]) (ys := [_, _, _, _, _, _, _, _]) (.cons (.sym 12 ⟨hn 12 _ rfl, rfl⟩) (.cons (.sym 30 ⟨hn 30 _ rfl, rfl⟩) (.cons (.sym 40 ⟨hn 40 _ rfl, rfl⟩) (.cons (.slnil 0 0) (.cons (.slnil 0 0) (.cons (.slnil 0 0) (.cons (.slnil 0 0) (.cons (.slnil 0 0) .nil))))))))) .nil

/-- The bytes of parts without blocks. -/
theorem bytes_yields (x : Nat) (m h : ByteArray) (hx : x ≤ 1073741824) (hm1 : m.size ≤ 160) (hh1 : h.size ≤ 160) : Yields Tryz.prog 6 #[partsV (I x) (.string m) (.string h)] (.string (textS x m h)) := by
  rcases Nat.eq_zero_or_pos m.size with hm | hm
  · rcases Nat.eq_zero_or_pos h.size with hh | hh
    · by_cases c0 : x = 0
      · exact yB000 x m h c0 hm hh
      by_cases c1 : x < 256
      · exact yB100 x m h (by omega) c1 hm hh
      by_cases c2 : x < 65536
      · exact yB200 x m h (by omega) c2 hm hh
      by_cases c3 : x < 16777216
      · exact yB300 x m h (by omega) c3 hm hh
      exact yB400 x m h (by omega) (by omega) hm hh
    · by_cases c0 : x = 0
      · exact yB001 x m h c0 hm hh hh1
      by_cases c1 : x < 256
      · exact yB101 x m h (by omega) c1 hm hh hh1
      by_cases c2 : x < 65536
      · exact yB201 x m h (by omega) c2 hm hh hh1
      by_cases c3 : x < 16777216
      · exact yB301 x m h (by omega) c3 hm hh hh1
      exact yB401 x m h (by omega) (by omega) hm hh hh1
  · rcases Nat.eq_zero_or_pos h.size with hh | hh
    · by_cases c0 : x = 0
      · exact yB010 x m h c0 hm hm1 hh
      by_cases c1 : x < 256
      · exact yB110 x m h (by omega) c1 hm hm1 hh
      by_cases c2 : x < 65536
      · exact yB210 x m h (by omega) c2 hm hm1 hh
      by_cases c3 : x < 16777216
      · exact yB310 x m h (by omega) c3 hm hm1 hh
      exact yB410 x m h (by omega) (by omega) hm hm1 hh
    · by_cases c0 : x = 0
      · exact yB011 x m h c0 hm hm1 hh hh1
      by_cases c1 : x < 256
      · exact yB111 x m h (by omega) c1 hm hm1 hh hh1
      by_cases c2 : x < 65536
      · exact yB211 x m h (by omega) c2 hm hm1 hh hh1
      by_cases c3 : x < 16777216
      · exact yB311 x m h (by omega) c3 hm hm1 hh hh1
      exact yB411 x m h (by omega) (by omega) hm hm1 hh hh1

end Go.Cx
