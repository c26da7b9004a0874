/-
  CxNj: the text's parts; the number at its head; cuts.
-/
import Derived.Test.YtglglgkaadfhpaaGreatDoorXNc
import Derived.Test.YtglglgkaadfhpaaGreatDoorXNi
import Derived.Test.YtglglgkaadfhpaaGreatDoorXKb
set_option linter.all false
namespace Go.Cx
open Go.Proofs
set_option maxRecDepth 100000

def mkS (l : List UInt8) : ByteArray := ⟨l.toArray⟩

theorem mkS_data (s : ByteArray) : mkS s.data.toList = s := by
  obtain ⟨a⟩ := s
  rfl

theorem mkS_toList (l : List UInt8) : (mkS l).data.toList = l := rfl
theorem mkS_size (l : List UInt8) : (mkS l).size = l.length := by
  show l.toArray.size = l.length
  simp

theorem ba_ext {s t : ByteArray} (h : s.data.toList = t.data.toList) : s = t := by
  rw [← mkS_data s, ← mkS_data t, h]

theorem extract_list (s : ByteArray) (a b : Nat) : (s.extract a b).data.toList = (s.data.toList.drop a).take (b - a) := by
  rw [ByteArray.data_extract, Array.toList_extract, List.extract_eq_take_drop]

theorem ext_drop {a b : List UInt8} {n : Nat} (hn : n = a.length) : (mkS (a ++ b)).extract n (mkS (a ++ b)).size = mkS b := by
  apply ba_ext
  rw [extract_list, mkS_toList, mkS_toList, mkS_size, hn, List.drop_left, List.length_append, Nat.add_sub_cancel_left, List.take_length]

theorem ext_take {a b : List UInt8} {n : Nat} (hn : n = a.length) : (mkS (a ++ b)).extract 0 n = mkS a := by
  apply ba_ext
  rw [extract_list, mkS_toList, mkS_toList, hn, List.drop_zero, Nat.sub_zero, List.take_left]

theorem ext_mid {a b c : List UInt8} {n k : Nat} (hn : n = a.length) (hk : k = a.length + b.length) : (mkS (a ++ (b ++ c))).extract n k = mkS b := by
  apply ba_ext
  rw [extract_list, mkS_toList, mkS_toList, hn, hk, List.drop_left, Nat.add_sub_cancel_left, List.take_left]

theorem digits_len : ∀ (k x : Nat), (digits k x).length = k
  | 0, _ => rfl
  | k + 1, x => by rw [digits, List.length_append, digits_len k]; rfl

theorem numB_len (x : Nat) : (numB x).length = 1 + cnt x := by
  unfold numB
  rw [List.length_cons, digits_len, Nat.add_comm]

theorem u8_small {n : Nat} (h : n < 256) : (UInt8.ofNat n).toNat = n := by
  rw [UInt8.toNat_ofNat']
  exact Nat.mod_eq_of_lt h

theorem num_list (x : Nat) (hx : x < 4294967296) (rest : List UInt8) :
    (x = 0 ∧ cnt x = 0 ∧ numB x ++ rest = 0 :: rest) ∨
    (∃ b0 : UInt8, b0.toNat ≠ 0 ∧ cnt x = 1 ∧ numB x ++ rest = 1 :: b0 :: rest ∧ x = b0.toNat) ∨
    (∃ b0 b1 : UInt8, b0.toNat ≠ 0 ∧ cnt x = 2 ∧ numB x ++ rest = 2 :: b0 :: b1 :: rest ∧ x = b0.toNat * 256 + b1.toNat) ∨
    (∃ b0 b1 b2 : UInt8, b0.toNat ≠ 0 ∧ cnt x = 3 ∧ numB x ++ rest = 3 :: b0 :: b1 :: b2 :: rest ∧ x = (b0.toNat * 256 + b1.toNat) * 256 + b2.toNat) ∨
    (∃ b0 b1 b2 b3 : UInt8, b0.toNat ≠ 0 ∧ cnt x = 4 ∧ numB x ++ rest = 4 :: b0 :: b1 :: b2 :: b3 :: rest ∧ x = ((b0.toNat * 256 + b1.toNat) * 256 + b2.toNat) * 256 + b3.toNat) := by
  have hmod : ∀ n, (UInt8.ofNat (n % 256)).toNat = n % 256 := fun n => u8_small (Nat.mod_lt _ (by decide))
  by_cases c0 : x = 0
  · subst c0; exact .inl ⟨rfl, rfl, rfl⟩
  · by_cases c1 : x < 256
    · have hc : cnt x = 1 := by unfold cnt; rw [if_neg c0, if_pos c1]
      refine .inr (.inl ⟨UInt8.ofNat (x % 256), by rw [hmod]; omega, hc, by unfold numB; rw [hc]; rfl, by rw [hmod]; omega⟩)
    · by_cases c2 : x < 65536
      · have hc : cnt x = 2 := by unfold cnt; rw [if_neg c0, if_neg c1, if_pos c2]
        refine .inr (.inr (.inl ⟨UInt8.ofNat (x / 256 % 256), UInt8.ofNat (x % 256), by rw [hmod]; omega, hc, by unfold numB; rw [hc]; rfl, by rw [hmod, hmod]; omega⟩))
      · by_cases c3 : x < 16777216
        · have hc : cnt x = 3 := by unfold cnt; rw [if_neg c0, if_neg c1, if_neg c2, if_pos c3]
          refine .inr (.inr (.inr (.inl ⟨UInt8.ofNat (x / 256 / 256 % 256), UInt8.ofNat (x / 256 % 256), UInt8.ofNat (x % 256), by rw [hmod]; omega, hc, by unfold numB; rw [hc]; rfl, by rw [hmod, hmod, hmod]; omega⟩)))
        · have hc : cnt x = 4 := by unfold cnt; rw [if_neg c0, if_neg c1, if_neg c2, if_neg c3]
          refine .inr (.inr (.inr (.inr ⟨UInt8.ofNat (x / 256 / 256 / 256 % 256), UInt8.ofNat (x / 256 / 256 % 256), UInt8.ofNat (x / 256 % 256), UInt8.ofNat (x % 256), by rw [hmod]; omega, hc, by unfold numB; rw [hc]; rfl, by rw [hmod, hmod, hmod, hmod]; omega⟩)))

theorem num_yields (x : Nat) (hx : x < 4294967296) (rest : List UInt8) (hl : rest.length ≤ 100000) : Yields Tryz.prog 45 #[.string (mkS (numB x ++ rest))] (.tuple #[I x, I (1 + cnt x), .int .i64 0]) := by
  unfold mkS
  rcases num_list x hx rest with ⟨h1, h2, h3⟩ | ⟨b0, h0, h2, h3, h4⟩ | ⟨b0, b1, h0, h2, h3, h4⟩ | ⟨b0, b1, b2, h0, h2, h3, h4⟩ | ⟨b0, b1, b2, b3, h0, h2, h3, h4⟩
  · rw [h3, h2, h1]; exact yieldN0 rest hl
  · rw [h3, h2, h4]; exact yieldN1 b0 rest hl h0
  · rw [h3, h2, h4]; exact yieldN2 b0 b1 rest hl h0
  · rw [h3, h2, h4]; exact yieldN3 b0 b1 b2 rest hl h0
  · rw [h3, h2, h4]; exact yieldN4 b0 b1 b2 b3 rest hl h0

theorem head_yields (x : Nat) (hx : x < 4294967296) (rest : List UInt8) (hl : rest.length ≤ 100000) : Yields Tryz.prog 35 #[.string (mkS (numB x ++ rest))] (.tuple #[I x, I (1 + cnt x), .int .i64 0]) := by
  unfold mkS
  rcases num_list x hx rest with ⟨h1, h2, h3⟩ | ⟨b0, h0, h2, h3, h4⟩ | ⟨b0, b1, h0, h2, h3, h4⟩ | ⟨b0, b1, b2, h0, h2, h3, h4⟩ | ⟨b0, b1, b2, b3, h0, h2, h3, h4⟩
  · rw [h3, h2, h1]; exact yieldH0 rest hl
  · rw [h3, h2, h4]; exact yieldH1 b0 rest hl h0
  · rw [h3, h2, h4]; exact yieldH2 b0 b1 rest hl h0
  · rw [h3, h2, h4]; exact yieldH3 b0 b1 b2 rest hl h0
  · rw [h3, h2, h4]; exact yieldH4 b0 b1 b2 b3 rest hl h0

/-! ### Cut -/
def cutS (s : ByteArray) : ByteArray := if 160 < s.size then s.extract 0 160 else s

theorem cutS_size (s : ByteArray) : (cutS s).size ≤ 160 := by
  unfold cutS
  split
  · rw [ByteArray.size_extract]; omega
  · omega

def nmC (s : ByteArray) : List (Nat × Value) := [(10, .string s), (11, I s.size), (12, .string (s.extract 0 160))]
def lCutA : List Fact := [⟨.len 9, [.chan (some 10)], .chan (some 11)⟩, ⟨.bin .gtr 3, [.chan (some 11), .int .i64 160], .bool true⟩, ⟨.sl 9 false true, [.chan (some 10), .int .i64 160], .chan (some 12)⟩]
def lCutB : List Fact := [⟨.len 9, [.chan (some 10)], .chan (some 11)⟩, ⟨.bin .gtr 3, [.chan (some 11), .int .i64 160], .bool false⟩]

theorem gtr_of {a b : Nat} {r : Bool} (h : decide (b < a) = r) : binInt .gtr .i64 (Int.ofNat a) (Int.ofNat b) = some (.bool r) := by
  have : binInt .gtr .i64 (Int.ofNat a) (Int.ofNat b) = some (.bool (decide (Int.ofNat a > Int.ofNat b))) := rfl
  rw [this, ← h]
  congr 2
  simp

theorem runCut (nm : Nat → Option Value) : (isVal (.chan (some 12)) ((@go Tryz.prog (factTab Tryz.prog nm lCutA) (told []) 100000).call 5 [.chan (some 10), .int .i64 160] ⟨.nil, 1000⟩) &&
    isVal (.chan (some 10)) ((@go Tryz.prog (factTab Tryz.prog nm lCutB) (told []) 100000).call 5 [.chan (some 10), .int .i64 160] ⟨.nil, 1000⟩)) = true := by kernel_rfl

theorem cut_yields (s : ByteArray) : Yields Tryz.prog 5 #[.string s, .int .i64 160] (.string (cutS s)) := by
  have run := runCut (nmOf (nmC s))
  simp only [Bool.and_eq_true] at run
  unfold cutS
  by_cases h : 160 < s.size
  · rw [if_pos h]
    have hl : ∀ x ∈ lCutA, FactOk Tryz.prog (nmOf (nmC s)) x := by
      intro x hx
      unfold lCutA at hx
      simp only [List.mem_cons, List.not_mem_nil, or_false] at hx
      rcases hx with rfl | rfl | rfl
      · exact fact_len (.inl ⟨10, rfl, rfl⟩) (.inl ⟨11, rfl, rfl⟩)
      · exact fact_ii (.inl ⟨11, rfl, rfl⟩) (.inr ⟨rfl, rfl⟩) (.inr ⟨rfl, rfl⟩) ⟨by decide, by decide⟩ (gtr_of (b := 160) (decide_eq_true h)) rfl
      · exact fact_sl_hi (i := 160) (.inl ⟨10, rfl, rfl⟩) (.inr ⟨rfl, rfl⟩) (by omega) (.inl ⟨12, rfl, rfl⟩) rfl
    obtain ⟨σ', hr⟩ := isVal_ok run.1
    exact yields_run (nmOf (nmC s)) lCutA hl (env_none _ _ hl) (us := [_, _]) base0 (nmOf_range rfl) (.cons (.inl ⟨10, rfl, rfl⟩) (.cons (.inr ⟨rfl, rfl⟩) .nil)) rfl (fun ι3 v' h1 h2 => VRel.chan_eq (h1 12 _ rfl) h2) hr
  · rw [if_neg h]
    have hl : ∀ x ∈ lCutB, FactOk Tryz.prog (nmOf (nmC s)) x := by
      intro x hx
      unfold lCutB at hx
      simp only [List.mem_cons, List.not_mem_nil, or_false] at hx
      rcases hx with rfl | rfl
      · exact fact_len (.inl ⟨10, rfl, rfl⟩) (.inl ⟨11, rfl, rfl⟩)
      · exact fact_ii (.inl ⟨11, rfl, rfl⟩) (.inr ⟨rfl, rfl⟩) (.inr ⟨rfl, rfl⟩) ⟨by decide, by decide⟩ (gtr_of (b := 160) (decide_eq_false h)) rfl
    obtain ⟨σ', hr⟩ := isVal_ok run.2
    exact yields_run (nmOf (nmC s)) lCutB hl (env_none _ _ hl) (us := [_, _]) base0 (nmOf_range rfl) (.cons (.inl ⟨10, rfl, rfl⟩) (.cons (.inr ⟨rfl, rfl⟩) .nil)) rfl (fun ι3 v' h1 h2 => VRel.chan_eq (h1 10 _ rfl) h2) hr

end Go.Cx

/-
  CxNk: SnapParts (function 3): the facts of its ways.
-/

namespace Go.Cx
open Go.Proofs
set_option maxRecDepth 1000000

def N (b : Nat) : Value := .chan (some b)
def i64 (n : Int) : Value := .int .i64 n
def nilS : Value := .string ⟨#[]⟩
def zeros5 : Value := .string ⟨#[0, 0, 0, 0, 0]⟩

def mainFacts (mV ml mk mkl hV hl hk hkl n23 n24 : Value) : List Fact := [
  ⟨.mn, [N 5, i64 1073741824], N 11⟩, ⟨.mx, [i64 0, N 11], N 12⟩,
  ⟨.bin .gtr 3, [N 12, i64 1073741824], .bool false⟩, ⟨.bin .lss 3, [N 12, i64 0], .bool false⟩,
  ⟨.sl 9 true false, [N 20, N 21], N 22⟩, ⟨.sl 9 true false, [N 22, mk], n23⟩, ⟨.sl 9 false true, [n23, ml], mV⟩, ⟨.sl 9 true false, [n23, ml], N 34⟩,
  ⟨.sl 9 true false, [N 34, hk], N 35⟩, ⟨.sl 9 false true, [N 35, hl], hV⟩, ⟨.sl 9 true false, [N 35, hl], zeros5⟩,
  ⟨.len 9, [n23], n24⟩, ⟨.len 9, [N 35], N 36⟩,
  ⟨.bin .gtr 3, [ml, i64 160], .bool false⟩, ⟨.bin .gtr 3, [hl, i64 160], .bool false⟩, ⟨.bin .gtr 3, [ml, n24], .bool false⟩, ⟨.bin .gtr 3, [hl, N 36], .bool false⟩,
  ⟨.mx, [ml, i64 0], ml⟩, ⟨.mx, [hl, i64 0], hl⟩,
  ⟨.len 9, [N 22], N 25⟩, ⟨.len 9, [N 34], N 37⟩, ⟨.bin .sub 3, [N 25, mk], n24⟩, ⟨.bin .sub 3, [N 37, hk], N 36⟩, ⟨.bin .add 3, [mk, ml], mkl⟩, ⟨.bin .add 3, [hk, hl], hkl⟩,
  ⟨.sl 9 true true, [N 22, mk, mkl], mV⟩, ⟨.sl 9 true false, [N 22, mkl], N 34⟩, ⟨.sl 9 true true, [N 34, hk, hkl], hV⟩, ⟨.sl 9 true false, [N 34, hkl], zeros5⟩,
  ⟨.bin .eql 3, [N 12, N 12], .bool true⟩, ⟨.bin .eql 9, [mV, mV], .bool true⟩, ⟨.bin .eql 9, [hV, hV], .bool true⟩, ⟨.bin .neq 9, [N 20, N 20], .bool false⟩]

/-- A mark that is neither empty nor the root's name. -/
def markFacts : List Fact := [⟨.bin .neq 9, [N 60, nilS], .bool true⟩, ⟨.bin .eql 9, [N 60, nilS], .bool false⟩]
/-- A key that is not the root's name. -/
def otherFacts (k : Value) : List Fact := [⟨.bin .eql 9, [k, idS], .bool false⟩]
def errFacts : List Fact := [⟨.bin .eql 29, [N 50, i64 0], .bool false⟩, ⟨.bin .neq 29, [N 50, i64 0], .bool true⟩]

def tailL : List UInt8 := [0, 0, 0, 0, 0]
def L4 (h : ByteArray) : List UInt8 := h.data.toList ++ tailL
def L3 (h : ByteArray) : List UInt8 := numB h.size ++ L4 h
def L2 (m h : ByteArray) : List UInt8 := m.data.toList ++ L3 h
def L1 (m h : ByteArray) : List UInt8 := numB m.size ++ L2 m h

theorem textS_eq (x : Nat) (m h : ByteArray) : textS x m h = mkS (numB x ++ L1 m h) := rfl

/-- The clock, cut. -/
def clk (a : Int) : Nat := (max 0 (min a 1073741824)).toNat

theorem clk_le (a : Int) : clk a ≤ 1073741824 := by unfold clk; omega
theorem clk_eq (a : Int) : (clk a : Int) = max 0 (min a 1073741824) := by unfold clk; omega

structure Ins where
  a : Int
  m0 : ByteArray
  h0 : ByteArray
  q : ByteArray
  e : Int

def nmL (z : Ins) : List (Nat × Value) :=
  let m := cutS z.m0
  let h := cutS z.h0
  let x := clk z.a
  [(5, .int .i64 z.a), (6, .string z.m0), (7, .string z.h0), (11, .int .i64 (min z.a 1073741824)), (12, I x), (20, .string (textS x m h)), (21, I (1 + cnt x)), (22, .string (mkS (L1 m h))), (23, .string (mkS (L2 m h))), (24, I (L2 m h).length), (25, I (L1 m h).length),
   (26, I (1 + cnt m.size + m.size)), (31, I m.size), (32, I (1 + cnt m.size)), (34, .string (mkS (L3 h))), (35, .string (mkS (L4 h))), (36, I (L4 h).length), (37, I (L3 h).length), (38, I (1 + cnt h.size + h.size)), (40, .string h), (41, I h.size), (42, I (1 + cnt h.size)),
   (50, .int .i64 z.e), (70, I z.q.size), (71, I (z.q.size % 32))]

def nmM (z : Ins) (b : Nat) : Option Value :=
  match nmOf (nmL z) b with
  | some v => some v
  | none => nmQ z.q b

theorem blt_yes' {a b : Nat} (h : Nat.blt a b = true) : a < b := by rw [Nat.blt_eq] at h; exact h

theorem lookup_none {l : List (Nat × Value)} {b : Nat} (h : ∀ p ∈ l, p.1 ≠ b) : nmOf l b = none := by
  unfold nmOf
  induction l with
  | nil => rfl
  | cons x l ih =>
    obtain ⟨c, u⟩ := x
    rw [List.lookup_cons]
    have hne : c ≠ b := h (c, u) (by simp)
    have : (b == c) = false := by simpa using fun e : b = c => hne e.symm
    rw [this]
    exact ih fun p hp => h p (by simp [hp])

theorem nmL_ids (z : Ins) : ∀ p ∈ nmL z, p.1 < 60 ∨ p.1 = 70 ∨ p.1 = 71 := by
  intro p hp
  have h : ((nmL z).all fun p => Nat.blt p.1 60 || Nat.beq p.1 70 || Nat.beq p.1 71) = true := rfl
  have := List.all_eq_true.1 h p hp
  simp only [Bool.or_eq_true, Nat.beq_eq] at this
  rcases this with (h1 | h1) | h1
  · exact .inl (blt_yes h1)
  · exact .inr (.inl h1)
  · exact .inr (.inr h1)

theorem nmQ_gap (q : ByteArray) {b : Nat} (h : b = 70 ∨ b = 71) : nmQ q b = none := by
  rcases h with rfl | rfl <;> rfl

theorem nmM_q (z : Ins) : ∀ b v, nmQ z.q b = some v → nmM z b = some v := by
  intro b v h
  have hr := nmQ_range z.q b v h
  have : nmOf (nmL z) b = none := lookup_none fun p hp e => by
    rcases nmL_ids z p hp with h1 | h1 | h1
    · omega
    · rw [nmQ_gap z.q (b := b) (.inl (by omega))] at h; cases h
    · rw [nmQ_gap z.q (b := b) (.inr (by omega))] at h; cases h
  unfold nmM
  rw [this]
  exact h

theorem nmM_keys (z : Ins) : KeyNames z.q (nmM z) := ⟨nmM_q z, rfl, rfl⟩

theorem nmM_60 (z : Ins) : nmM z 60 = some (.string z.q) := by
  have := nmM_q z 60 _ (nmQ_text z.q (i := 0) (by omega))
  rw [this, Nat.mul_zero, ByteArray.extract_zero_size]

theorem lss_of {a b : Nat} {r : Bool} (h : decide (a < b) = r) : binInt .lss .i64 (Int.ofNat a) (Int.ofNat b) = some (.bool r) := by
  have : binInt .lss .i64 (Int.ofNat a) (Int.ofNat b) = some (.bool (decide (Int.ofNat a < Int.ofNat b))) := rfl
  rw [this, ← h]
  congr 2
  simp

theorem sub_of {a b c : Nat} (h : a = b + c) (hc : c < 9223372036854775808) : binInt .sub .i64 (Int.ofNat a) (Int.ofNat b) = some (I c) := by
  have : binInt .sub .i64 (Int.ofNat a) (Int.ofNat b) = some (.int .i64 (wr .i64 (Int.ofNat a - Int.ofNat b))) := rfl
  have e : Int.ofNat a - Int.ofNat b = Int.ofNat c := by subst h; simp; omega
  rw [this, e, wr_small hc]
  rfl

theorem add_of {a b : Nat} (hc : a + b < 9223372036854775808) : binInt .add .i64 (Int.ofNat a) (Int.ofNat b) = some (I (a + b)) := add_byte a b hc

theorem eq_self (s : ByteArray) : (s.toList == s.toList) = true := by simp

theorem max_of (n : Nat) : (if (0 : Int) > Int.ofNat n then (0 : Int) else Int.ofNat n) = Int.ofNat n := max0 n

theorem cnt_le (x : Nat) : cnt x ≤ 4 := by
  unfold cnt
  split
  · omega
  · split
    · omega
    · split
      · omega
      · split <;> omega

theorem main_ok (z : Ins) {mV ml mk mkl hV hl hk hkl n23 n24 : Value} (d1 : Den (nmM z) mV (.string (cutS z.m0))) (d2 : Den (nmM z) ml (I (cutS z.m0).size)) (d3 : Den (nmM z) mk (I (1 + cnt (cutS z.m0).size))) (d4 : Den (nmM z) mkl (I (1 + cnt (cutS z.m0).size + (cutS z.m0).size)))
    (d5 : Den (nmM z) hV (.string (cutS z.h0))) (d6 : Den (nmM z) hl (I (cutS z.h0).size)) (d7 : Den (nmM z) hk (I (1 + cnt (cutS z.h0).size))) (d8 : Den (nmM z) hkl (I (1 + cnt (cutS z.h0).size + (cutS z.h0).size)))
    (d9 : Den (nmM z) n23 (.string (mkS (L2 (cutS z.m0) (cutS z.h0))))) (d10 : Den (nmM z) n24 (I (L2 (cutS z.m0) (cutS z.h0)).length)) : ∀ x ∈ mainFacts mV ml mk mkl hV hl hk hkl n23 n24, FactOk Tryz.prog (nmM z) x := by
  have n5 : Den (nmM z) (N 5) (.int .i64 z.a) := .inl ⟨5, rfl, rfl⟩
  have n11 : Den (nmM z) (N 11) (.int .i64 (min z.a 1073741824)) := .inl ⟨11, rfl, rfl⟩
  have n12 : Den (nmM z) (N 12) (I (clk z.a)) := .inl ⟨12, rfl, rfl⟩
  have n20 : Den (nmM z) (N 20) (.string (mkS (numB (clk z.a) ++ L1 (cutS z.m0) (cutS z.h0)))) := .inl ⟨20, rfl, rfl⟩
  have n21 : Den (nmM z) (N 21) (I (1 + cnt (clk z.a))) := .inl ⟨21, rfl, rfl⟩
  have n22 : Den (nmM z) (N 22) (.string (mkS (L1 (cutS z.m0) (cutS z.h0)))) := .inl ⟨22, rfl, rfl⟩
  have n25 : Den (nmM z) (N 25) (I (L1 (cutS z.m0) (cutS z.h0)).length) := .inl ⟨25, rfl, rfl⟩
  have n34 : Den (nmM z) (N 34) (.string (mkS (L3 (cutS z.h0)))) := .inl ⟨34, rfl, rfl⟩
  have n35 : Den (nmM z) (N 35) (.string (mkS (L4 (cutS z.h0)))) := .inl ⟨35, rfl, rfl⟩
  have n36 : Den (nmM z) (N 36) (I (L4 (cutS z.h0)).length) := .inl ⟨36, rfl, rfl⟩
  have n37 : Den (nmM z) (N 37) (I (L3 (cutS z.h0)).length) := .inl ⟨37, rfl, rfl⟩
  have hm := cutS_size z.m0
  have hh := cutS_size z.h0
  generalize cutS z.m0 = m at *
  generalize cutS z.h0 = h at *
  have hml : m.data.toList.length = m.size := by simp
  have hhl : h.data.toList.length = h.size := by simp
  have c1 := cnt_le m.size
  have c2 := cnt_le h.size
  have l4 : (L4 h).length = h.size + 5 := by unfold L4; rw [List.length_append, hhl]; rfl
  have l3 : (L3 h).length = 1 + cnt h.size + (L4 h).length := by unfold L3; rw [List.length_append, numB_len]
  have l2 : (L2 m h).length = m.size + (L3 h).length := by unfold L2; rw [List.length_append, hml]
  have l1 : (L1 m h).length = 1 + cnt m.size + (L2 m h).length := by unfold L1; rw [List.length_append, numB_len]
  have C : ∀ {v : Value}, flat 8 v = true → Den (nmM z) v v := fun hf => .inr ⟨hf, rfl⟩
  have bb : BinOp.gtr ≠ .shl ∧ BinOp.gtr ≠ .shr := ⟨by decide, by decide⟩
  have hclk := clk_le z.a
  intro x hx
  unfold mainFacts at hx
  simp only [List.mem_cons, List.not_mem_nil, or_false] at hx
  rcases hx with rfl | rfl | rfl | rfl | rfl | rfl | rfl | rfl | rfl | rfl | rfl | rfl | rfl | rfl | rfl | rfl | rfl | rfl | rfl | rfl | rfl | rfl | rfl | rfl | rfl | rfl | rfl | rfl | rfl | rfl | rfl | rfl | rfl
  · exact fact_min n5 (C rfl) n11 (by rw [Int.min_def]; split <;> split <;> omega)
  · exact fact_max (C rfl) n11 n12 (by
      show _ = ((clk z.a : Nat) : Int)
      rw [clk_eq]
      split <;> omega)
  · exact fact_ii n12 (C rfl) (C rfl) bb (gtr_of (b := 1073741824) (decide_eq_false (by omega))) rfl
  · exact fact_ii n12 (C rfl) (C rfl) ⟨by decide, by decide⟩ (lss_of (b := 0) (decide_eq_false (by omega))) rfl
  · exact fact_sl_lo n20 n21 (by rw [mkS_size, List.length_append, numB_len]; omega) n22 (ext_drop (numB_len _).symm)
  · exact fact_sl_lo n22 d3 (by rw [mkS_size]; omega) d9 (ext_drop (numB_len _).symm)
  · exact fact_sl_hi d9 d2 (by rw [mkS_size]; omega) d1 ((ext_take hml.symm).trans (mkS_data m))
  · exact fact_sl_lo d9 d2 (by rw [mkS_size]; omega) n34 (ext_drop hml.symm)
  · exact fact_sl_lo n34 d7 (by rw [mkS_size]; omega) n35 (ext_drop (numB_len _).symm)
  · exact fact_sl_hi n35 d6 (by rw [mkS_size]; omega) d5 ((ext_take hhl.symm).trans (mkS_data h))
  · exact fact_sl_lo n35 d6 (by rw [mkS_size]; omega) (C rfl) (ext_drop hhl.symm)
  · exact fact_len d9 (by rw [mkS_size]; exact d10)
  · exact fact_len n35 (by rw [mkS_size]; exact n36)
  · exact fact_ii d2 (C rfl) (C rfl) bb (gtr_of (b := 160) (decide_eq_false (by omega))) rfl
  · exact fact_ii d6 (C rfl) (C rfl) bb (gtr_of (b := 160) (decide_eq_false (by omega))) rfl
  · exact fact_ii d2 d10 (C rfl) bb (gtr_of (decide_eq_false (by omega))) rfl
  · exact fact_ii d6 n36 (C rfl) bb (gtr_of (decide_eq_false (by omega))) rfl
  · exact fact_max d2 (C rfl) d2 (max_of _)
  · exact fact_max d6 (C rfl) d6 (max_of _)
  · exact fact_len n22 (by rw [mkS_size]; exact n25)
  · exact fact_len n34 (by rw [mkS_size]; exact n37)
  · exact fact_ii n25 d3 d10 ⟨by decide, by decide⟩ (sub_of l1 (by omega)) rfl
  · exact fact_ii n37 d7 n36 ⟨by decide, by decide⟩ (sub_of l3 (by omega)) rfl
  · exact fact_ii d3 d2 d4 ⟨by decide, by decide⟩ (add_of (by omega)) rfl
  · exact fact_ii d7 d6 d8 ⟨by decide, by decide⟩ (add_of (by omega)) rfl
  · exact fact_sl_both n22 d3 d4 (by omega) (by rw [mkS_size]; omega) d1 ((ext_mid (numB_len _).symm (by rw [numB_len, hml])).trans (mkS_data m))
  · refine fact_sl_lo n22 d4 (by rw [mkS_size]; omega) n34 ?_
    have : L1 m h = (numB m.size ++ m.data.toList) ++ L3 h := by unfold L1 L2; rw [List.append_assoc]
    rw [this]
    exact ext_drop (by rw [List.length_append, numB_len, hml])
  · exact fact_sl_both n34 d7 d8 (by omega) (by rw [mkS_size]; omega) d5 ((ext_mid (numB_len _).symm (by rw [numB_len, hhl])).trans (mkS_data h))
  · refine fact_sl_lo n34 d8 (by rw [mkS_size]; omega) (C rfl) (t := mkS tailL) ?_
    have : L3 h = (numB h.size ++ h.data.toList) ++ tailL := by unfold L3 L4; rw [List.append_assoc]
    rw [this]
    exact ext_drop (by rw [List.length_append, numB_len, hhl])
  · refine fact_ii n12 n12 (C rfl) ⟨by decide, by decide⟩ ?_ rfl
    have : binInt .eql .i64 (Int.ofNat (clk z.a)) (Int.ofNat (clk z.a)) = some (.bool (Int.ofNat (clk z.a) == Int.ofNat (clk z.a))) := rfl
    rw [this]
    simp
  · exact fact_eq d1 d1 (eq_self _)
  · exact fact_eq d5 d5 (eq_self _)
  · exact fact_ne n20 n20 (by rw [eq_self]; rfl)

end Go.Cx

/-
  CxNl: SnapParts: the calls that are known; its ways.
-/

namespace Go.Cx
open Go.Proofs
set_option maxRecDepth 1000000

def tipK : Known := ⟨96, keyArgs, dagPart, .tuple #[.agg #[.slice none 0 0], .chan (some 50)]⟩

def calls0 (mV ml mk hV hl hk : Value) : List Known := [k4, k34,
  ⟨5, [N 6, i64 160], [], mV⟩, ⟨5, [N 7, i64 160], [], hV⟩, ⟨6, [partsV (N 12) mV hV], [], N 20⟩,
  ⟨45, [N 20], [], .tuple #[N 12, N 21, i64 0]⟩, ⟨45, [N 22], [], .tuple #[ml, mk, i64 0]⟩, ⟨45, [N 34], [], .tuple #[hl, hk, i64 0]⟩,
  ⟨35, [N 20], [], .tuple #[N 12, N 21, i64 0]⟩, ⟨35, [N 22], [], .tuple #[ml, mk, i64 0]⟩, ⟨35, [N 34], [], .tuple #[hl, hk, i64 0]⟩]

noncomputable def runLaw (nm : Nat → Option Value) (l : List Fact) (c : List Known) : Bool :=
  isSome (.bool true) (seen (rowsOf two) ((@go Tryz.prog (mkTab Tryz.prog nm l noParts) (told c) 100000).call 3 [N 5, N 6, N 7] (hpOf 1000 (rowsOf two))))

def fA1 : List Fact := mainFacts nilS (i64 0) (i64 1) (i64 1) idS (i64 32) (i64 2) (i64 34) (N 34) (N 37)
def cA1 : List Known := calls0 nilS (i64 0) (i64 1) idS (i64 32) (i64 2) ++ small
def fA2 : List Fact := mainFacts idS (i64 32) (i64 2) (i64 34) idS (i64 32) (i64 2) (i64 34) (N 23) (N 24)
def cA2 : List Known := calls0 idS (i64 32) (i64 2) idS (i64 32) (i64 2) ++ small
def fA3 : List Fact := mainFacts (N 60) (N 31) (N 32) (N 26) idS (i64 32) (i64 2) (i64 34) (N 23) (N 24) ++ (markFacts ++ (otherFacts (N 60) ++ errFacts))
def cA3 : List Known := calls0 (N 60) (N 31) (N 32) idS (i64 32) (i64 2) ++ [tipK]
def fB1 : List Fact := mainFacts nilS (i64 0) (i64 1) (i64 1) (N 60) (N 41) (N 42) (N 38) (N 34) (N 37) ++ (otherFacts (N 60) ++ errFacts)
def cB1 : List Known := calls0 nilS (i64 0) (i64 1) (N 60) (N 41) (N 42) ++ [tipK]
def fB2 : List Fact := mainFacts idS (i64 32) (i64 2) (i64 34) (N 60) (N 41) (N 42) (N 38) (N 23) (N 24) ++ (otherFacts (N 60) ++ errFacts)
def cB2 : List Known := calls0 idS (i64 32) (i64 2) (N 60) (N 41) (N 42) ++ [tipK]
def fC : List Fact := mainFacts (N 60) (N 31) (N 32) (N 26) (N 40) (N 41) (N 42) (N 38) (N 23) (N 24) ++ (markFacts ++ (otherFacts (N 40) ++ errFacts))
def cC : List Known := calls0 (N 60) (N 31) (N 32) (N 40) (N 41) (N 42) ++ [tipK]

end Go.Cx
