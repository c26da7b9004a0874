/-
  CxKa: the program's plain facts; the rows of digest.start and digest.key; the genesis header.
-/
import Derived.Test.YtglglgkaadfhpaaGreatDoorXZ
import Derived.Test.YtglglgkaadfhpaaGreatDoorProg
import Derived.Test.YtglglgkaadfhpaaGreatDoorXZf
set_option linter.all false
namespace Go.Cx
open Go.Proofs
set_option maxRecDepth 1000000

def startL : List Value := [.int .u32 1779033703, .int .u32 3144134277, .int .u32 1013904242, .int .u32 2773480762, .int .u32 1359893119, .int .u32 2600822924, .int .u32 528734635, .int .u32 1541459225]
def keyL : List Value := [.int .u32 1116352408, .int .u32 1899447441, .int .u32 3049323471, .int .u32 3921009573, .int .u32 961987163, .int .u32 1508970993, .int .u32 2453635748, .int .u32 2870763221, .int .u32 3624381080, .int .u32 310598401, .int .u32 607225278, .int .u32 1426881987, .int .u32 1925078388, .int .u32 2162078206, .int .u32 2614888103, .int .u32 3248222580, .int .u32 3835390401, .int .u32 4022224774, .int .u32 264347078, .int .u32 604807628, .int .u32 770255983, .int .u32 1249150122, .int .u32 1555081692, .int .u32 1996064986, .int .u32 2554220882, .int .u32 2821834349, .int .u32 2952996808, .int .u32 3210313671, .int .u32 3336571891, .int .u32 3584528711, .int .u32 113926993, .int .u32 338241895, .int .u32 666307205, .int .u32 773529912, .int .u32 1294757372, .int .u32 1396182291, .int .u32 1695183700, .int .u32 1986661051, .int .u32 2177026350, .int .u32 2456956037, .int .u32 2730485921, .int .u32 2820302411, .int .u32 3259730800, .int .u32 3345764771, .int .u32 3516065817, .int .u32 3600352804, .int .u32 4094571909, .int .u32 275423344, .int .u32 430227734, .int .u32 506948616, .int .u32 659060556, .int .u32 883997877, .int .u32 958139571, .int .u32 1322822218, .int .u32 1537002063, .int .u32 1747873779, .int .u32 1955562222, .int .u32 2024104815, .int .u32 2227730452, .int .u32 2361852424, .int .u32 2428436474, .int .u32 2756734187, .int .u32 3204031479, .int .u32 3329325298]
def two : List (Nat × (List Value × TypeId)) := [(0, (startL, 194)), (1, (keyL, 269))]
def gen0 : Value := .agg #[.int .i64 0, .int .i64 0, .string ⟨#[]⟩, .int .i64 0, .int .u64 2, .slice none 0 0, .int .i64 0]
def idV : Value := .agg #[.int .u8 23, .int .u8 31, .int .u8 77, .int .u8 167, .int .u8 223, .int .u8 103, .int .u8 160, .int .u8 51, .int .u8 9, .int .u8 225, .int .u8 9, .int .u8 154, .int .u8 53, .int .u8 203, .int .u8 198, .int .u8 114, .int .u8 108, .int .u8 180, .int .u8 182, .int .u8 72, .int .u8 156, .int .u8 63, .int .u8 47, .int .u8 91, .int .u8 60, .int .u8 196, .int .u8 43, .int .u8 7, .int .u8 158, .int .u8 51, .int .u8 82, .int .u8 135]
def idS : Value := .string ⟨#[23, 31, 77, 167, 223, 103, 160, 51, 9, 225, 9, 154, 53, 203, 198, 114, 108, 180, 182, 72, 156, 63, 47, 91, 60, 196, 43, 7, 158, 51, 82, 135]⟩

theorem names0 : (Tryz.prog.funcs.toList.all fun fn => !(fn.name == "runtime.NumGoroutine")) = true := by kernel_rfl
theorem gsize : Tryz.prog.globals.size = 4 := by kernel_rfl
theorem mixed0 : Tryz.prog.follows .mixedOrders = true := by kernel_rfl
theorem room0 : Room Tryz.prog := by unfold Room; rw [gsize]; decide
theorem two_ok : flatRows 1000 two = true := by kernel_rfl
theorem base0 : Tryz.prog.globals.size ≤ 1000 := by rw [gsize]; decide

/-- An environment of calls that are known. -/
theorem env_told [Tab Tryz.prog] [TabOk Tryz.prog] {l : List Known} (h : ∀ x ∈ l, Good Tryz.prog x) : Env Tryz.prog (told l) := env_gen room0 mixed0 names0 (told_knows h)

/-- A run on the two rows, without names. -/
noncomputable def run2 (l : List Known) (f : FuncId) (args : List Value) : Option Value := seen (rowsOf two) ((@go Tryz.prog (noTab Tryz.prog) (told l) 100000).call f args (hpOf 1000 (rowsOf two)))

theorem good_run2 (T : Tab Tryz.prog) {l : List Known} (hl : ∀ x ∈ l, @Good Tryz.prog (noTab Tryz.prog) x) {f : FuncId} {args : List Value} {v : Value} (hargs : args.all (flatN 1000 8) = true) (hv : flatN 1000 8 v = true)
    (h : run2 l f args = some v) : @Good Tryz.prog T ⟨f, args, rowsOf two, v⟩ :=
  good_rows T (noTab Tryz.prog) (noTab_ok Tryz.prog) (@env_told (noTab Tryz.prog) (noTab_ok Tryz.prog) _ hl) two_ok base0 (fun _ _ h => by cases h) hargs hv h

end Go.Cx

/-
  CxNa: facts on numbers and texts.
-/

namespace Go.Cx
open Go.Proofs

def nmOf (l : List (Nat × Value)) (b : Nat) : Option Value := l.lookup b

theorem nmOf_mem {l : List (Nat × Value)} {b : Nat} {v : Value} (h : nmOf l b = some v) : (b, v) ∈ l := by
  unfold nmOf at h
  induction l with
  | nil => cases h
  | cons x l ih =>
    obtain ⟨c, u⟩ := x
    rw [List.lookup_cons] at h
    split at h
    · rename_i hb
      have : b = c := by simpa using hb
      cases h; subst this; simp
    · exact List.mem_cons_of_mem _ (ih h)

theorem nmOf_range {l : List (Nat × Value)} (h : (l.all fun p => Nat.ble 4 p.1 && Nat.blt p.1 1000) = true) : ∀ b v, nmOf l b = some v → Tryz.prog.globals.size ≤ b ∧ b < 1000 := by
  intro b v hb
  have := List.all_eq_true.1 h _ (nmOf_mem hb)
  simp only [Bool.and_eq_true] at this
  rw [gsize]
  exact ⟨by simpa using this.1, by simpa using this.2⟩

section
variable {nm : Nat → Option Value}

theorem under9 : Tryz.prog.underlying 9 = some .string := by kernel_rfl
theorem under3 : Tryz.prog.underlying 3 = some (.int .i64) := by kernel_rfl
theorem under5 : Tryz.prog.underlying 5 = some (.int .u8) := by kernel_rfl

theorem fact_ii {op : BinOp} {t : TypeId} {x y r u : Value} {k : IntKind} {a b : Int} (hx : Den nm x (.int k a)) (hy : Den nm y (.int k b)) (hr : Den nm r u) (hop : op ≠ .shl ∧ op ≠ .shr) (h : binInt op k a b = some u) (h1 : oneCell u = true) :
    FactOk Tryz.prog nm ⟨.bin op t, [x, y], r⟩ :=
  ⟨_, u, .cons hx (.cons hy .nil), rfl, hr, h1, by simp only [semOf]; rw [binInt_run h hop]; rfl⟩

theorem fact_sh {op : BinOp} {t : TypeId} {x y r u : Value} {k j : IntKind} {a b : Int} (hx : Den nm x (.int k a)) (hy : Den nm y (.int j b)) (hr : Den nm r u) (h : shiftInt op k a b = some u) (h1 : oneCell u = true) :
    FactOk Tryz.prog nm ⟨.bin op t, [x, y], r⟩ :=
  ⟨_, u, .cons hx (.cons hy .nil), rfl, hr, h1, by simp only [semOf]; rw [shiftInt_run h]; rfl⟩

theorem fact_len {x r : Value} {s : ByteArray} (hx : Den nm x (.string s)) (hr : Den nm r (.int .i64 s.size)) : FactOk Tryz.prog nm ⟨.len 9, [x], r⟩ :=
  ⟨_, _, .cons hx .nil, rfl, hr, rfl, by
    show prun Tryz.prog (Builtin.len_ #[9] 0 #[.string s]) = _
    unfold Builtin.len_
    simp only [List.getElem?_toArray, List.getElem?_cons_zero, prun_bind, prun_underlying, under9, Option.bind_some]
    rfl⟩

theorem fact_eq {x y : Value} {s t : ByteArray} {b : Bool} (hx : Den nm x (.string s)) (hy : Den nm y (.string t)) (h : (s.toList == t.toList) = b) : FactOk Tryz.prog nm ⟨.bin .eql 9, [x, y], .bool b⟩ :=
  ⟨_, .bool b, .cons hx (.cons hy .nil), rfl, .inr ⟨rfl, rfl⟩, rfl, by subst h; rfl⟩

theorem fact_ne {x y : Value} {s t : ByteArray} {b : Bool} (hx : Den nm x (.string s)) (hy : Den nm y (.string t)) (h : (!(s.toList == t.toList)) = b) : FactOk Tryz.prog nm ⟨.bin .neq 9, [x, y], .bool b⟩ :=
  ⟨_, .bool b, .cons hx (.cons hy .nil), rfl, .inr ⟨rfl, rfl⟩, rfl, by subst h; rfl⟩

theorem getElem?_bytes (s : ByteArray) (i : Nat) : s[i]? = s.data.toList[i]? := by
  by_cases h : i < s.size
  · rw [getElem?_pos s i h]
    have h2 : i < s.data.toList.length := by simpa using h
    rw [List.getElem?_eq_getElem h2]
    rfl
  · rw [getElem?_neg s i h]
    have h2 : ¬ i < s.data.toList.length := by simpa using h
    rw [List.getElem?_eq_none (by omega)]

theorem fact_idx {x y r : Value} {s : ByteArray} {i : Nat} {c : UInt8} (hx : Den nm x (.string s)) (hy : Den nm y (.int .i64 (Int.ofNat i))) (hc : s.data.toList[i]? = some c) (hr : Den nm r (.int .u8 c.toNat)) : FactOk Tryz.prog nm ⟨.idx 9, [x, y], r⟩ :=
  ⟨_, _, .cons hx (.cons hy .nil), rfl, hr, rfl, by
    show prun Tryz.prog (Instr.index 9 (.string s) (.int .i64 (Int.ofNat i))) = _
    unfold Instr.index
    simp only [prun_bind, prun_underlying, under9, Option.bind_some, asIntOf, prun_pure]
    have h0 : (0 : Int) ≤ Int.ofNat i := Int.natCast_nonneg i
    rw [if_pos h0]
    have : (Int.ofNat i).toNat = i := rfl
    rw [this, getElem?_bytes, hc]
    rfl⟩

theorem fact_cv {x r : Value} {n : Int} {k : IntKind} (hx : Den nm x (.int k n)) (hr : Den nm r (.int .i64 (IntKind.i64.wrap n))) : FactOk Tryz.prog nm ⟨.cv 5 3, [x], r⟩ :=
  ⟨_, _, .cons hx .nil, rfl, hr, rfl, by
    show prun Tryz.prog (Go.convert 5 3 (.int k n)) = _
    unfold Go.convert
    simp only [prun_bind, prun_underlying, under5, under3, Option.bind_some]
    rfl⟩

theorem bound_ok {i n : Nat} {c : BoundsCode} (h : i ≤ n) : Instr.sliceBound (.int .i64 (Int.ofNat i)) n c = Pure.pure i := by
  unfold Instr.sliceBound
  have h0 : (0 : Int) ≤ Int.ofNat i ∧ Int.ofNat i ≤ n := ⟨Int.natCast_nonneg i, by simpa using h⟩
  show (if 0 ≤ Int.ofNat i ∧ Int.ofNat i ≤ (n : Int) then Pure.pure (Int.ofNat i).toNat else boundsPanic .i64 (Int.ofNat i) n c : Sem Nat) = _
  rw [if_pos h0]
  rfl

theorem fact_sl_lo {x y r : Value} {s t : ByteArray} {i : Nat} (hx : Den nm x (.string s)) (hy : Den nm y (.int .i64 (Int.ofNat i))) (hi : i ≤ s.size) (hr : Den nm r (.string t)) (ht : s.extract i s.size = t) : FactOk Tryz.prog nm ⟨.sl 9 true false, [x, y], r⟩ :=
  ⟨_, _, .cons hx (.cons hy .nil), rfl, hr, rfl, by
    subst ht
    show prun Tryz.prog (Instr.sliceAt 9 (.string s) (some (.int .i64 (Int.ofNat i))) none none) = _
    unfold Instr.sliceAt Instr.slice Instr.sliceBounds
    simp only [prun_bind, prun_underlying, under9, Option.bind_some, bound_ok hi, prun_pure, Option.isSome_none, Bool.false_eq_true, if_false]⟩

theorem fact_sl_hi {x y r : Value} {s t : ByteArray} {i : Nat} (hx : Den nm x (.string s)) (hy : Den nm y (.int .i64 (Int.ofNat i))) (hi : i ≤ s.size) (hr : Den nm r (.string t)) (ht : s.extract 0 i = t) : FactOk Tryz.prog nm ⟨.sl 9 false true, [x, y], r⟩ :=
  ⟨_, _, .cons hx (.cons hy .nil), rfl, hr, rfl, by
    subst ht
    show prun Tryz.prog (Instr.sliceAt 9 (.string s) none (some (.int .i64 (Int.ofNat i))) none) = _
    unfold Instr.sliceAt Instr.slice Instr.sliceBounds
    simp only [prun_bind, prun_underlying, under9, Option.bind_some, bound_ok hi, prun_pure, Option.isSome_none, Bool.false_eq_true, if_false]⟩

theorem fact_sl_both {x y z r : Value} {s t : ByteArray} {i j : Nat} (hx : Den nm x (.string s)) (hy : Den nm y (.int .i64 (Int.ofNat i))) (hz : Den nm z (.int .i64 (Int.ofNat j))) (hij : i ≤ j) (hj : j ≤ s.size) (hr : Den nm r (.string t)) (ht : s.extract i j = t) :
    FactOk Tryz.prog nm ⟨.sl 9 true true, [x, y, z], r⟩ :=
  ⟨_, _, .cons hx (.cons hy (.cons hz .nil)), rfl, hr, rfl, by
    subst ht
    show prun Tryz.prog (Instr.sliceAt 9 (.string s) (some (.int .i64 (Int.ofNat i))) (some (.int .i64 (Int.ofNat j))) none) = _
    unfold Instr.sliceAt Instr.slice Instr.sliceBounds
    simp only [prun_bind, prun_underlying, under9, Option.bind_some, bound_ok hij, bound_ok hj, prun_pure, Option.isSome_none, Bool.false_eq_true, if_false]⟩

theorem fact_max {x y r : Value} {k j : IntKind} {a b c : Int} (hx : Den nm x (.int k a)) (hy : Den nm y (.int j b)) (hr : Den nm r (.int k c)) (h : (if b > a then b else a) = c) : FactOk Tryz.prog nm ⟨.mx, [x, y], r⟩ :=
  ⟨_, _, .cons hx (.cons hy .nil), rfl, hr, rfl, by subst h; rfl⟩

theorem fact_min {x y r : Value} {k j : IntKind} {a b c : Int} (hx : Den nm x (.int k a)) (hy : Den nm y (.int j b)) (hr : Den nm r (.int k c)) (h : (if b < a then b else a) = c) : FactOk Tryz.prog nm ⟨.mn, [x, y], r⟩ :=
  ⟨_, _, .cons hx (.cons hy .nil), rfl, hr, rfl, by subst h; rfl⟩
end

theorem wr_small {n : Nat} (h : n < 9223372036854775808) : wr .i64 (Int.ofNat n) = Int.ofNat n := by
  have : Nat.blt n (lim .i64) = true := by rw [Nat.blt_eq]; simpa [lim] using h
  simp [wr, this]

end Go.Cx

/-
  CxNb: the numbers at the head of a text; cuts. Printed by tools/genNum.py.
-/

namespace Go.Cx
open Go.Proofs
set_option maxRecDepth 1000000

theorem env_none (nm : Nat → Option Value) (l : List Fact) (hl : ∀ x ∈ l, FactOk Tryz.prog nm x) : @Env Tryz.prog (factTab Tryz.prog nm l) (told []) :=
  @env_told (factTab Tryz.prog nm l) (factTab_ok hl) [] (fun x h => by simp at h)

def isVal (v : Value) : Res (Value × Hp) → Bool
  | .ok (u, _) => veq 8 u v
  | .no _ => false

theorem isVal_ok {v : Value} {r : Res (Value × Hp)} (h : isVal v r = true) : ∃ σ', r = .ok (v, σ') := by
  unfold isVal at h
  split at h
  · rename_i u σ'
    have := veq_eq 8 _ _ h
    subst this
    exact ⟨σ', rfl⟩
  · cases h

theorem lor_byte {x b : Nat} (hb : b < 256) : Nat.lor (x * 256) b = x * 256 + b := by
  have h := Nat.shiftLeft_add_eq_or_of_lt (i := 8) (by omega : b < 2 ^ 8) x
  rw [Nat.shiftLeft_eq] at h
  exact h.symm

theorem byte_lt (b : UInt8) : b.toNat < 256 := UInt8.toNat_lt b

theorem wrap_byte (b : UInt8) : IntKind.i64.wrap (b.toNat : Int) = (b.toNat : Int) := by
  rw [← wr_eq]; exact wr_small (by have := byte_lt b; omega)



theorem text_ne (c : UInt8) (l : List UInt8) : ((⟨(c :: l).toArray⟩ : ByteArray).toList == (⟨#[]⟩ : ByteArray).toList) = false := by
  rw [ByteArray.toList_eq, ByteArray.toList_eq]
  rfl

theorem sub_one (n : Nat) (h : n < 9223372036854775808) : binInt .sub .i64 (Int.ofNat (n + 1)) 1 = some (.int .i64 (Int.ofNat n)) := by
  have : binInt .sub .i64 (Int.ofNat (n + 1)) 1 = some (.int .i64 (wr .i64 (Int.ofNat (n + 1) - 1))) := rfl
  have e : Int.ofNat (n + 1) - 1 = Int.ofNat n := by simp
  rw [this, e, wr_small h]

theorem or_zero (n : Nat) (h : n < 9223372036854775808) : binInt .or .i64 0 (Int.ofNat n) = some (.int .i64 (Int.ofNat n)) := by
  have : binInt .or .i64 0 (Int.ofNat n) = some (.int .i64 (wr .i64 (Int.ofNat (Nat.lor 0 n)))) := rfl
  rw [this]
  have e : Nat.lor 0 n = n := Nat.zero_or n
  rw [e, wr_small h]

theorem add_zero (n : Nat) (h : n < 9223372036854775808) : binInt .add .i64 0 (Int.ofNat n) = some (.int .i64 (Int.ofNat n)) := by
  have : binInt .add .i64 0 (Int.ofNat n) = some (.int .i64 (wr .i64 (0 + Int.ofNat n))) := rfl
  rw [this, Int.zero_add, wr_small h]

theorem shl_byte (n : Nat) (h : n * 256 < 9223372036854775808) : shiftInt .shl .i64 (Int.ofNat n) 8 = some (.int .i64 (Int.ofNat (n * 256))) := by
  have : shiftInt .shl .i64 (Int.ofNat n) 8 = some (.int .i64 (wr .i64 (Int.ofNat (n * 2 ^ (min 8 64))))) := rfl
  rw [this]
  have e : (2 : Nat) ^ (min 8 64) = 256 := by decide
  rw [e, wr_small h]

theorem or_byte (n b : Nat) (hb : b < 256) (h : n * 256 + b < 9223372036854775808) : binInt .or .i64 (Int.ofNat (n * 256)) (Int.ofNat b) = some (.int .i64 (Int.ofNat (n * 256 + b))) := by
  have : binInt .or .i64 (Int.ofNat (n * 256)) (Int.ofNat b) = some (.int .i64 (wr .i64 (Int.ofNat (Nat.lor (n * 256) b)))) := rfl
  rw [this, lor_byte hb, wr_small h]

theorem mul_byte (n : Nat) (h : n * 256 < 9223372036854775808) : binInt .mul .i64 256 (Int.ofNat n) = some (.int .i64 (Int.ofNat (n * 256))) := by
  have : binInt .mul .i64 256 (Int.ofNat n) = some (.int .i64 (wr .i64 (256 * Int.ofNat n))) := rfl
  have e : (256 : Int) * Int.ofNat n = Int.ofNat (n * 256) := by simp; omega
  rw [this, e, wr_small h]

theorem add_byte (a b : Nat) (h : a + b < 9223372036854775808) : binInt .add .i64 (Int.ofNat a) (Int.ofNat b) = some (.int .i64 (Int.ofNat (a + b))) := by
  have : binInt .add .i64 (Int.ofNat a) (Int.ofNat b) = some (.int .i64 (wr .i64 (Int.ofNat a + Int.ofNat b))) := rfl
  have e : Int.ofNat a + Int.ofNat b = Int.ofNat (a + b) := rfl
  rw [this, e, wr_small h]


def nmN0 (rest : List UInt8) : List (Nat × Value) := [(10, .string ⟨(0 :: rest).toArray⟩), (11, .int .i64 (Int.ofNat (rest.length + 1))), (12, .int .i64 (Int.ofNat (rest.length + 0)))]

def lN0 : List Fact := [⟨.idx 9, [.chan (some 10), .int .i64 0], .int .u8 0⟩, ⟨.len 9, [.chan (some 10)], .chan (some 11)⟩, ⟨.bin .eql 9, [.chan (some 10), .string ⟨#[]⟩], .bool false⟩, ⟨.bin .leq 3, [.chan (some 11), .int .i64 0], .bool false⟩]

theorem lN0_ok (rest : List UInt8) (hl : rest.length ≤ 100000) : ∀ x ∈ lN0, FactOk Tryz.prog (nmOf (nmN0  rest)) x := by
  intro x hx
  unfold lN0 at hx
  simp only [List.mem_cons, List.not_mem_nil, or_false] at hx
  rcases hx with rfl | rfl | rfl | rfl
  · exact fact_idx (.inl ⟨10, rfl, rfl⟩) (.inr ⟨rfl, rfl⟩) rfl (.inr ⟨rfl, rfl⟩)
  · exact fact_len (.inl ⟨10, rfl, rfl⟩) (.inl ⟨11, rfl, by simp [nmN0, nmOf, List.lookup, ByteArray.size]; try omega⟩)
  · exact fact_eq (.inl ⟨10, rfl, rfl⟩) (.inr ⟨rfl, rfl⟩) (text_ne _ _)
  · exact fact_ii (.inl ⟨11, rfl, rfl⟩) (.inr ⟨rfl, rfl⟩) (.inr ⟨rfl, rfl⟩) ⟨by decide, by decide⟩ (by simp [binInt]; try omega) rfl

theorem runN0 (nm : Nat → Option Value) : isVal (.tuple #[.int .i64 0, .int .i64 1, .int .i64 0]) ((@go Tryz.prog (factTab Tryz.prog nm lN0) (told []) 100000).call 45 [.chan (some 10)] ⟨.nil, 1000⟩) = true := by kernel_rfl

theorem yieldN0 (rest : List UInt8) (hl : rest.length ≤ 100000) : Yields Tryz.prog 45 #[.string ⟨(0 :: rest).toArray⟩] (.tuple #[.int .i64 0, .int .i64 1, .int .i64 0]) := by
  obtain ⟨σ', h⟩ := isVal_ok (runN0 (nmOf (nmN0  rest)))
  refine yields_run (nmOf (nmN0  rest)) lN0 (lN0_ok  rest hl) (env_none _ _ (lN0_ok  rest hl)) (us := [_]) base0 (nmOf_range rfl) (.cons (.inl ⟨10, rfl, rfl⟩) .nil) rfl (fun ι3 v' h1 h2 => ?_) h
  exact denl_tuple_eq h1 (us := [_, _, _]) (.cons (.inr ⟨rfl, rfl⟩) (.cons (.inr ⟨rfl, rfl⟩) (.cons (.inr ⟨rfl, rfl⟩) .nil))) (by intro h; cases h) h2

def lH0 : List Fact := [⟨.idx 9, [.chan (some 10), .int .i64 0], .int .u8 0⟩, ⟨.len 9, [.chan (some 10)], .chan (some 11)⟩, ⟨.bin .eql 3, [.chan (some 11), .int .i64 0], .bool false⟩, ⟨.bin .sub 3, [.chan (some 11), .int .i64 1], .chan (some 12)⟩, ⟨.bin .lss 3, [.chan (some 12), .int .i64 0], .bool false⟩]

theorem lH0_ok (rest : List UInt8) (hl : rest.length ≤ 100000) : ∀ x ∈ lH0, FactOk Tryz.prog (nmOf (nmN0  rest)) x := by
  intro x hx
  unfold lH0 at hx
  simp only [List.mem_cons, List.not_mem_nil, or_false] at hx
  rcases hx with rfl | rfl | rfl | rfl | rfl
  · exact fact_idx (.inl ⟨10, rfl, rfl⟩) (.inr ⟨rfl, rfl⟩) rfl (.inr ⟨rfl, rfl⟩)
  · exact fact_len (.inl ⟨10, rfl, rfl⟩) (.inl ⟨11, rfl, by simp [nmN0, nmOf, List.lookup, ByteArray.size]; try omega⟩)
  · exact fact_ii (.inl ⟨11, rfl, rfl⟩) (.inr ⟨rfl, rfl⟩) (.inr ⟨rfl, rfl⟩) ⟨by decide, by decide⟩ (by simp [binInt]; try omega) rfl
  · exact fact_ii (.inl ⟨11, rfl, rfl⟩) (.inr ⟨rfl, rfl⟩) (.inl ⟨12, rfl, rfl⟩) ⟨by decide, by decide⟩ (sub_one _ (by omega)) rfl
  · exact fact_ii (.inl ⟨12, rfl, rfl⟩) (.inr ⟨rfl, rfl⟩) (.inr ⟨rfl, rfl⟩) ⟨by decide, by decide⟩ (by simp [binInt]; try omega) rfl

theorem runH0 (nm : Nat → Option Value) : isVal (.tuple #[.int .i64 0, .int .i64 1, .int .i64 0]) ((@go Tryz.prog (factTab Tryz.prog nm lH0) (told []) 100000).call 35 [.chan (some 10)] ⟨.nil, 1000⟩) = true := by kernel_rfl

theorem yieldH0 (rest : List UInt8) (hl : rest.length ≤ 100000) : Yields Tryz.prog 35 #[.string ⟨(0 :: rest).toArray⟩] (.tuple #[.int .i64 0, .int .i64 1, .int .i64 0]) := by
  obtain ⟨σ', h⟩ := isVal_ok (runH0 (nmOf (nmN0  rest)))
  refine yields_run (nmOf (nmN0  rest)) lH0 (lH0_ok  rest hl) (env_none _ _ (lH0_ok  rest hl)) (us := [_]) base0 (nmOf_range rfl) (.cons (.inl ⟨10, rfl, rfl⟩) .nil) rfl (fun ι3 v' h1 h2 => ?_) h
  exact denl_tuple_eq h1 (us := [_, _, _]) (.cons (.inr ⟨rfl, rfl⟩) (.cons (.inr ⟨rfl, rfl⟩) (.cons (.inr ⟨rfl, rfl⟩) .nil))) (by intro h; cases h) h2

def nmN1 (b0 : UInt8) (rest : List UInt8) : List (Nat × Value) := [(10, .string ⟨(1 :: b0 :: rest).toArray⟩), (11, .int .i64 (Int.ofNat (rest.length + 2))), (12, .int .i64 (Int.ofNat (rest.length + 1))), (20, .int .u8 b0.toNat), (30, .int .i64 (Int.ofNat (b0.toNat))), (41, .int .i64 (Int.ofNat (b0.toNat)))]

def lN1 : List Fact := [⟨.idx 9, [.chan (some 10), .int .i64 0], .int .u8 1⟩, ⟨.bin .gtr 3, [.chan (some 11), .int .i64 1], .bool true⟩, ⟨.idx 9, [.chan (some 10), .int .i64 1], .chan (some 20)⟩, ⟨.bin .eql 5, [.chan (some 20), .int .u8 0], .bool false⟩, ⟨.cv 5 3, [.chan (some 20)], .chan (some 30)⟩, ⟨.len 9, [.chan (some 10)], .chan (some 11)⟩, ⟨.bin .eql 9, [.chan (some 10), .string ⟨#[]⟩], .bool false⟩, ⟨.bin .leq 3, [.chan (some 11), .int .i64 1], .bool false⟩, ⟨.bin .or 3, [.int .i64 0, .chan (some 30)], .chan (some 41)⟩]

theorem lN1_ok (b0 : UInt8) (rest : List UInt8) (hl : rest.length ≤ 100000) (h0 : b0.toNat ≠ 0) : ∀ x ∈ lN1, FactOk Tryz.prog (nmOf (nmN1 b0 rest)) x := by
  intro x hx
  unfold lN1 at hx
  simp only [List.mem_cons, List.not_mem_nil, or_false] at hx
  rcases hx with rfl | rfl | rfl | rfl | rfl | rfl | rfl | rfl | rfl
  · exact fact_idx (.inl ⟨10, rfl, rfl⟩) (.inr ⟨rfl, rfl⟩) rfl (.inr ⟨rfl, rfl⟩)
  · exact fact_ii (.inl ⟨11, rfl, rfl⟩) (.inr ⟨rfl, rfl⟩) (.inr ⟨rfl, rfl⟩) ⟨by decide, by decide⟩ (by simp [binInt]; try omega) rfl
  · exact fact_idx (.inl ⟨10, rfl, rfl⟩) (.inr ⟨rfl, rfl⟩) rfl (.inl ⟨20, rfl, rfl⟩)
  · exact fact_ii (.inl ⟨20, rfl, rfl⟩) (.inr ⟨rfl, rfl⟩) (.inr ⟨rfl, rfl⟩) ⟨by decide, by decide⟩ (by simp [binInt]; omega) rfl
  · exact fact_cv (.inl ⟨20, rfl, rfl⟩) (.inl ⟨30, rfl, by rw [wrap_byte]; rfl⟩)
  · exact fact_len (.inl ⟨10, rfl, rfl⟩) (.inl ⟨11, rfl, by simp [nmN1, nmOf, List.lookup, ByteArray.size]; try omega⟩)
  · exact fact_eq (.inl ⟨10, rfl, rfl⟩) (.inr ⟨rfl, rfl⟩) (text_ne _ _)
  · exact fact_ii (.inl ⟨11, rfl, rfl⟩) (.inr ⟨rfl, rfl⟩) (.inr ⟨rfl, rfl⟩) ⟨by decide, by decide⟩ (by simp [binInt]; try omega) rfl
  · exact fact_ii (.inr ⟨rfl, rfl⟩) (.inl ⟨30, rfl, rfl⟩) (.inl ⟨41, rfl, rfl⟩) ⟨by decide, by decide⟩ (or_zero _ (by have := byte_lt b0; omega)) rfl

theorem runN1 (nm : Nat → Option Value) : isVal (.tuple #[.chan (some 41), .int .i64 2, .int .i64 0]) ((@go Tryz.prog (factTab Tryz.prog nm lN1) (told []) 100000).call 45 [.chan (some 10)] ⟨.nil, 1000⟩) = true := by kernel_rfl

theorem yieldN1 (b0 : UInt8) (rest : List UInt8) (hl : rest.length ≤ 100000) (h0 : b0.toNat ≠ 0) : Yields Tryz.prog 45 #[.string ⟨(1 :: b0 :: rest).toArray⟩] (.tuple #[.int .i64 (Int.ofNat (b0.toNat)), .int .i64 2, .int .i64 0]) := by
  obtain ⟨σ', h⟩ := isVal_ok (runN1 (nmOf (nmN1 b0 rest)))
  refine yields_run (nmOf (nmN1 b0 rest)) lN1 (lN1_ok b0 rest hl h0) (env_none _ _ (lN1_ok b0 rest hl h0)) (us := [_]) base0 (nmOf_range rfl) (.cons (.inl ⟨10, rfl, rfl⟩) .nil) rfl (fun ι3 v' h1 h2 => ?_) h
  exact denl_tuple_eq h1 (us := [_, _, _]) (.cons (.inl ⟨41, rfl, rfl⟩) (.cons (.inr ⟨rfl, rfl⟩) (.cons (.inr ⟨rfl, rfl⟩) .nil))) (by intro h; cases h) h2

def lH1 : List Fact := [⟨.idx 9, [.chan (some 10), .int .i64 0], .int .u8 1⟩, ⟨.bin .gtr 3, [.chan (some 11), .int .i64 1], .bool true⟩, ⟨.idx 9, [.chan (some 10), .int .i64 1], .chan (some 20)⟩, ⟨.bin .eql 5, [.chan (some 20), .int .u8 0], .bool false⟩, ⟨.cv 5 3, [.chan (some 20)], .chan (some 30)⟩, ⟨.len 9, [.chan (some 10)], .chan (some 11)⟩, ⟨.bin .eql 3, [.chan (some 11), .int .i64 0], .bool false⟩, ⟨.bin .sub 3, [.chan (some 11), .int .i64 1], .chan (some 12)⟩, ⟨.bin .lss 3, [.chan (some 12), .int .i64 1], .bool false⟩, ⟨.bin .add 3, [.int .i64 0, .chan (some 30)], .chan (some 41)⟩]

theorem lH1_ok (b0 : UInt8) (rest : List UInt8) (hl : rest.length ≤ 100000) (h0 : b0.toNat ≠ 0) : ∀ x ∈ lH1, FactOk Tryz.prog (nmOf (nmN1 b0 rest)) x := by
  intro x hx
  unfold lH1 at hx
  simp only [List.mem_cons, List.not_mem_nil, or_false] at hx
  rcases hx with rfl | rfl | rfl | rfl | rfl | rfl | rfl | rfl | rfl | rfl
  · exact fact_idx (.inl ⟨10, rfl, rfl⟩) (.inr ⟨rfl, rfl⟩) rfl (.inr ⟨rfl, rfl⟩)
  · exact fact_ii (.inl ⟨11, rfl, rfl⟩) (.inr ⟨rfl, rfl⟩) (.inr ⟨rfl, rfl⟩) ⟨by decide, by decide⟩ (by simp [binInt]; try omega) rfl
  · exact fact_idx (.inl ⟨10, rfl, rfl⟩) (.inr ⟨rfl, rfl⟩) rfl (.inl ⟨20, rfl, rfl⟩)
  · exact fact_ii (.inl ⟨20, rfl, rfl⟩) (.inr ⟨rfl, rfl⟩) (.inr ⟨rfl, rfl⟩) ⟨by decide, by decide⟩ (by simp [binInt]; omega) rfl
  · exact fact_cv (.inl ⟨20, rfl, rfl⟩) (.inl ⟨30, rfl, by rw [wrap_byte]; rfl⟩)
  · exact fact_len (.inl ⟨10, rfl, rfl⟩) (.inl ⟨11, rfl, by simp [nmN1, nmOf, List.lookup, ByteArray.size]; try omega⟩)
  · exact fact_ii (.inl ⟨11, rfl, rfl⟩) (.inr ⟨rfl, rfl⟩) (.inr ⟨rfl, rfl⟩) ⟨by decide, by decide⟩ (by simp [binInt]; try omega) rfl
  · exact fact_ii (.inl ⟨11, rfl, rfl⟩) (.inr ⟨rfl, rfl⟩) (.inl ⟨12, rfl, rfl⟩) ⟨by decide, by decide⟩ (sub_one _ (by omega)) rfl
  · exact fact_ii (.inl ⟨12, rfl, rfl⟩) (.inr ⟨rfl, rfl⟩) (.inr ⟨rfl, rfl⟩) ⟨by decide, by decide⟩ (by simp [binInt]; try omega) rfl
  · exact fact_ii (.inr ⟨rfl, rfl⟩) (.inl ⟨30, rfl, rfl⟩) (.inl ⟨41, rfl, rfl⟩) ⟨by decide, by decide⟩ (add_zero _ (by have := byte_lt b0; omega)) rfl

theorem runH1 (nm : Nat → Option Value) : isVal (.tuple #[.chan (some 41), .int .i64 2, .int .i64 0]) ((@go Tryz.prog (factTab Tryz.prog nm lH1) (told []) 100000).call 35 [.chan (some 10)] ⟨.nil, 1000⟩) = true := by kernel_rfl

theorem yieldH1 (b0 : UInt8) (rest : List UInt8) (hl : rest.length ≤ 100000) (h0 : b0.toNat ≠ 0) : Yields Tryz.prog 35 #[.string ⟨(1 :: b0 :: rest).toArray⟩] (.tuple #[.int .i64 (Int.ofNat (b0.toNat)), .int .i64 2, .int .i64 0]) := by
  obtain ⟨σ', h⟩ := isVal_ok (runH1 (nmOf (nmN1 b0 rest)))
  refine yields_run (nmOf (nmN1 b0 rest)) lH1 (lH1_ok b0 rest hl h0) (env_none _ _ (lH1_ok b0 rest hl h0)) (us := [_]) base0 (nmOf_range rfl) (.cons (.inl ⟨10, rfl, rfl⟩) .nil) rfl (fun ι3 v' h1 h2 => ?_) h
  exact denl_tuple_eq h1 (us := [_, _, _]) (.cons (.inl ⟨41, rfl, rfl⟩) (.cons (.inr ⟨rfl, rfl⟩) (.cons (.inr ⟨rfl, rfl⟩) .nil))) (by intro h; cases h) h2

def nmN2 (b0 b1 : UInt8) (rest : List UInt8) : List (Nat × Value) := [(10, .string ⟨(2 :: b0 :: b1 :: rest).toArray⟩), (11, .int .i64 (Int.ofNat (rest.length + 3))), (12, .int .i64 (Int.ofNat (rest.length + 2))), (20, .int .u8 b0.toNat), (30, .int .i64 (Int.ofNat (b0.toNat))), (21, .int .u8 b1.toNat), (31, .int .i64 (Int.ofNat (b1.toNat))), (41, .int .i64 (Int.ofNat (b0.toNat))), (42, .int .i64 (Int.ofNat ((b0.toNat) * 256 + b1.toNat))), (51, .int .i64 (Int.ofNat ((b0.toNat) * 256)))]

def lN2 : List Fact := [⟨.idx 9, [.chan (some 10), .int .i64 0], .int .u8 2⟩, ⟨.bin .gtr 3, [.chan (some 11), .int .i64 1], .bool true⟩, ⟨.idx 9, [.chan (some 10), .int .i64 1], .chan (some 20)⟩, ⟨.bin .eql 5, [.chan (some 20), .int .u8 0], .bool false⟩, ⟨.cv 5 3, [.chan (some 20)], .chan (some 30)⟩, ⟨.idx 9, [.chan (some 10), .int .i64 2], .chan (some 21)⟩, ⟨.cv 5 3, [.chan (some 21)], .chan (some 31)⟩, ⟨.len 9, [.chan (some 10)], .chan (some 11)⟩, ⟨.bin .eql 9, [.chan (some 10), .string ⟨#[]⟩], .bool false⟩, ⟨.bin .leq 3, [.chan (some 11), .int .i64 2], .bool false⟩, ⟨.bin .or 3, [.int .i64 0, .chan (some 30)], .chan (some 41)⟩, ⟨.bin .shl 3, [.chan (some 41), .int .u64 8], .chan (some 51)⟩, ⟨.bin .or 3, [.chan (some 51), .chan (some 31)], .chan (some 42)⟩]

theorem lN2_ok (b0 b1 : UInt8) (rest : List UInt8) (hl : rest.length ≤ 100000) (h0 : b0.toNat ≠ 0) : ∀ x ∈ lN2, FactOk Tryz.prog (nmOf (nmN2 b0 b1 rest)) x := by
  intro x hx
  unfold lN2 at hx
  simp only [List.mem_cons, List.not_mem_nil, or_false] at hx
  rcases hx with rfl | rfl | rfl | rfl | rfl | rfl | rfl | rfl | rfl | rfl | rfl | rfl | rfl
  · exact fact_idx (.inl ⟨10, rfl, rfl⟩) (.inr ⟨rfl, rfl⟩) rfl (.inr ⟨rfl, rfl⟩)
  · exact fact_ii (.inl ⟨11, rfl, rfl⟩) (.inr ⟨rfl, rfl⟩) (.inr ⟨rfl, rfl⟩) ⟨by decide, by decide⟩ (by simp [binInt]; try omega) rfl
  · exact fact_idx (.inl ⟨10, rfl, rfl⟩) (.inr ⟨rfl, rfl⟩) rfl (.inl ⟨20, rfl, rfl⟩)
  · exact fact_ii (.inl ⟨20, rfl, rfl⟩) (.inr ⟨rfl, rfl⟩) (.inr ⟨rfl, rfl⟩) ⟨by decide, by decide⟩ (by simp [binInt]; omega) rfl
  · exact fact_cv (.inl ⟨20, rfl, rfl⟩) (.inl ⟨30, rfl, by rw [wrap_byte]; rfl⟩)
  · exact fact_idx (.inl ⟨10, rfl, rfl⟩) (.inr ⟨rfl, rfl⟩) rfl (.inl ⟨21, rfl, rfl⟩)
  · exact fact_cv (.inl ⟨21, rfl, rfl⟩) (.inl ⟨31, rfl, by rw [wrap_byte]; rfl⟩)
  · exact fact_len (.inl ⟨10, rfl, rfl⟩) (.inl ⟨11, rfl, by simp [nmN2, nmOf, List.lookup, ByteArray.size]; try omega⟩)
  · exact fact_eq (.inl ⟨10, rfl, rfl⟩) (.inr ⟨rfl, rfl⟩) (text_ne _ _)
  · exact fact_ii (.inl ⟨11, rfl, rfl⟩) (.inr ⟨rfl, rfl⟩) (.inr ⟨rfl, rfl⟩) ⟨by decide, by decide⟩ (by simp [binInt]; try omega) rfl
  · exact fact_ii (.inr ⟨rfl, rfl⟩) (.inl ⟨30, rfl, rfl⟩) (.inl ⟨41, rfl, rfl⟩) ⟨by decide, by decide⟩ (or_zero _ (by have := byte_lt b0; omega)) rfl
  · exact fact_sh (.inl ⟨41, rfl, rfl⟩) (.inr ⟨rfl, rfl⟩) (.inl ⟨51, rfl, rfl⟩) (shl_byte _ (by have q0 := byte_lt b0; have q1 := byte_lt b1; omega)) rfl
  · exact fact_ii (.inl ⟨51, rfl, rfl⟩) (.inl ⟨31, rfl, rfl⟩) (.inl ⟨42, rfl, rfl⟩) ⟨by decide, by decide⟩ (or_byte _ _ (by have q0 := byte_lt b0; have q1 := byte_lt b1; omega) (by have q0 := byte_lt b0; have q1 := byte_lt b1; omega)) rfl

theorem runN2 (nm : Nat → Option Value) : isVal (.tuple #[.chan (some 42), .int .i64 3, .int .i64 0]) ((@go Tryz.prog (factTab Tryz.prog nm lN2) (told []) 100000).call 45 [.chan (some 10)] ⟨.nil, 1000⟩) = true := by kernel_rfl

theorem yieldN2 (b0 b1 : UInt8) (rest : List UInt8) (hl : rest.length ≤ 100000) (h0 : b0.toNat ≠ 0) : Yields Tryz.prog 45 #[.string ⟨(2 :: b0 :: b1 :: rest).toArray⟩] (.tuple #[.int .i64 (Int.ofNat ((b0.toNat) * 256 + b1.toNat)), .int .i64 3, .int .i64 0]) := by
  obtain ⟨σ', h⟩ := isVal_ok (runN2 (nmOf (nmN2 b0 b1 rest)))
  refine yields_run (nmOf (nmN2 b0 b1 rest)) lN2 (lN2_ok b0 b1 rest hl h0) (env_none _ _ (lN2_ok b0 b1 rest hl h0)) (us := [_]) base0 (nmOf_range rfl) (.cons (.inl ⟨10, rfl, rfl⟩) .nil) rfl (fun ι3 v' h1 h2 => ?_) h
  exact denl_tuple_eq h1 (us := [_, _, _]) (.cons (.inl ⟨42, rfl, rfl⟩) (.cons (.inr ⟨rfl, rfl⟩) (.cons (.inr ⟨rfl, rfl⟩) .nil))) (by intro h; cases h) h2

def lH2 : List Fact := [⟨.idx 9, [.chan (some 10), .int .i64 0], .int .u8 2⟩, ⟨.bin .gtr 3, [.chan (some 11), .int .i64 1], .bool true⟩, ⟨.idx 9, [.chan (some 10), .int .i64 1], .chan (some 20)⟩, ⟨.bin .eql 5, [.chan (some 20), .int .u8 0], .bool false⟩, ⟨.cv 5 3, [.chan (some 20)], .chan (some 30)⟩, ⟨.idx 9, [.chan (some 10), .int .i64 2], .chan (some 21)⟩, ⟨.cv 5 3, [.chan (some 21)], .chan (some 31)⟩, ⟨.len 9, [.chan (some 10)], .chan (some 11)⟩, ⟨.bin .eql 3, [.chan (some 11), .int .i64 0], .bool false⟩, ⟨.bin .sub 3, [.chan (some 11), .int .i64 1], .chan (some 12)⟩, ⟨.bin .lss 3, [.chan (some 12), .int .i64 2], .bool false⟩, ⟨.bin .add 3, [.int .i64 0, .chan (some 30)], .chan (some 41)⟩, ⟨.bin .mul 3, [.int .i64 256, .chan (some 41)], .chan (some 51)⟩, ⟨.bin .add 3, [.chan (some 51), .chan (some 31)], .chan (some 42)⟩]

theorem lH2_ok (b0 b1 : UInt8) (rest : List UInt8) (hl : rest.length ≤ 100000) (h0 : b0.toNat ≠ 0) : ∀ x ∈ lH2, FactOk Tryz.prog (nmOf (nmN2 b0 b1 rest)) x := by
  intro x hx
  unfold lH2 at hx
  simp only [List.mem_cons, List.not_mem_nil, or_false] at hx
  rcases hx with rfl | rfl | rfl | rfl | rfl | rfl | rfl | rfl | rfl | rfl | rfl | rfl | rfl | rfl
  · exact fact_idx (.inl ⟨10, rfl, rfl⟩) (.inr ⟨rfl, rfl⟩) rfl (.inr ⟨rfl, rfl⟩)
  · exact fact_ii (.inl ⟨11, rfl, rfl⟩) (.inr ⟨rfl, rfl⟩) (.inr ⟨rfl, rfl⟩) ⟨by decide, by decide⟩ (by simp [binInt]; try omega) rfl
  · exact fact_idx (.inl ⟨10, rfl, rfl⟩) (.inr ⟨rfl, rfl⟩) rfl (.inl ⟨20, rfl, rfl⟩)
  · exact fact_ii (.inl ⟨20, rfl, rfl⟩) (.inr ⟨rfl, rfl⟩) (.inr ⟨rfl, rfl⟩) ⟨by decide, by decide⟩ (by simp [binInt]; omega) rfl
  · exact fact_cv (.inl ⟨20, rfl, rfl⟩) (.inl ⟨30, rfl, by rw [wrap_byte]; rfl⟩)
  · exact fact_idx (.inl ⟨10, rfl, rfl⟩) (.inr ⟨rfl, rfl⟩) rfl (.inl ⟨21, rfl, rfl⟩)
  · exact fact_cv (.inl ⟨21, rfl, rfl⟩) (.inl ⟨31, rfl, by rw [wrap_byte]; rfl⟩)
  · exact fact_len (.inl ⟨10, rfl, rfl⟩) (.inl ⟨11, rfl, by simp [nmN2, nmOf, List.lookup, ByteArray.size]; try omega⟩)
  · exact fact_ii (.inl ⟨11, rfl, rfl⟩) (.inr ⟨rfl, rfl⟩) (.inr ⟨rfl, rfl⟩) ⟨by decide, by decide⟩ (by simp [binInt]; try omega) rfl
  · exact fact_ii (.inl ⟨11, rfl, rfl⟩) (.inr ⟨rfl, rfl⟩) (.inl ⟨12, rfl, rfl⟩) ⟨by decide, by decide⟩ (sub_one _ (by omega)) rfl
  · exact fact_ii (.inl ⟨12, rfl, rfl⟩) (.inr ⟨rfl, rfl⟩) (.inr ⟨rfl, rfl⟩) ⟨by decide, by decide⟩ (by simp [binInt]; try omega) rfl
  · exact fact_ii (.inr ⟨rfl, rfl⟩) (.inl ⟨30, rfl, rfl⟩) (.inl ⟨41, rfl, rfl⟩) ⟨by decide, by decide⟩ (add_zero _ (by have := byte_lt b0; omega)) rfl
  · exact fact_ii (.inr ⟨rfl, rfl⟩) (.inl ⟨41, rfl, rfl⟩) (.inl ⟨51, rfl, rfl⟩) ⟨by decide, by decide⟩ (mul_byte _ (by have q0 := byte_lt b0; have q1 := byte_lt b1; omega)) rfl
  · exact fact_ii (.inl ⟨51, rfl, rfl⟩) (.inl ⟨31, rfl, rfl⟩) (.inl ⟨42, rfl, rfl⟩) ⟨by decide, by decide⟩ (add_byte _ _ (by have q0 := byte_lt b0; have q1 := byte_lt b1; omega)) rfl

theorem runH2 (nm : Nat → Option Value) : isVal (.tuple #[.chan (some 42), .int .i64 3, .int .i64 0]) ((@go Tryz.prog (factTab Tryz.prog nm lH2) (told []) 100000).call 35 [.chan (some 10)] ⟨.nil, 1000⟩) = true := by kernel_rfl

theorem yieldH2 (b0 b1 : UInt8) (rest : List UInt8) (hl : rest.length ≤ 100000) (h0 : b0.toNat ≠ 0) : Yields Tryz.prog 35 #[.string ⟨(2 :: b0 :: b1 :: rest).toArray⟩] (.tuple #[.int .i64 (Int.ofNat ((b0.toNat) * 256 + b1.toNat)), .int .i64 3, .int .i64 0]) := by
  obtain ⟨σ', h⟩ := isVal_ok (runH2 (nmOf (nmN2 b0 b1 rest)))
  refine yields_run (nmOf (nmN2 b0 b1 rest)) lH2 (lH2_ok b0 b1 rest hl h0) (env_none _ _ (lH2_ok b0 b1 rest hl h0)) (us := [_]) base0 (nmOf_range rfl) (.cons (.inl ⟨10, rfl, rfl⟩) .nil) rfl (fun ι3 v' h1 h2 => ?_) h
  exact denl_tuple_eq h1 (us := [_, _, _]) (.cons (.inl ⟨42, rfl, rfl⟩) (.cons (.inr ⟨rfl, rfl⟩) (.cons (.inr ⟨rfl, rfl⟩) .nil))) (by intro h; cases h) h2

def nmN3 (b0 b1 b2 : UInt8) (rest : List UInt8) : List (Nat × Value) := [(10, .string ⟨(3 :: b0 :: b1 :: b2 :: rest).toArray⟩), (11, .int .i64 (Int.ofNat (rest.length + 4))), (12, .int .i64 (Int.ofNat (rest.length + 3))), (20, .int .u8 b0.toNat), (30, .int .i64 (Int.ofNat (b0.toNat))), (21, .int .u8 b1.toNat), (31, .int .i64 (Int.ofNat (b1.toNat))), (22, .int .u8 b2.toNat), (32, .int .i64 (Int.ofNat (b2.toNat))), (41, .int .i64 (Int.ofNat (b0.toNat))), (42, .int .i64 (Int.ofNat ((b0.toNat) * 256 + b1.toNat))), (43, .int .i64 (Int.ofNat (((b0.toNat) * 256 + b1.toNat) * 256 + b2.toNat))), (51, .int .i64 (Int.ofNat ((b0.toNat) * 256))), (52, .int .i64 (Int.ofNat (((b0.toNat) * 256 + b1.toNat) * 256)))]

def lN3 : List Fact := [⟨.idx 9, [.chan (some 10), .int .i64 0], .int .u8 3⟩, ⟨.bin .gtr 3, [.chan (some 11), .int .i64 1], .bool true⟩, ⟨.idx 9, [.chan (some 10), .int .i64 1], .chan (some 20)⟩, ⟨.bin .eql 5, [.chan (some 20), .int .u8 0], .bool false⟩, ⟨.cv 5 3, [.chan (some 20)], .chan (some 30)⟩, ⟨.idx 9, [.chan (some 10), .int .i64 2], .chan (some 21)⟩, ⟨.cv 5 3, [.chan (some 21)], .chan (some 31)⟩, ⟨.idx 9, [.chan (some 10), .int .i64 3], .chan (some 22)⟩, ⟨.cv 5 3, [.chan (some 22)], .chan (some 32)⟩, ⟨.len 9, [.chan (some 10)], .chan (some 11)⟩, ⟨.bin .eql 9, [.chan (some 10), .string ⟨#[]⟩], .bool false⟩, ⟨.bin .leq 3, [.chan (some 11), .int .i64 3], .bool false⟩, ⟨.bin .or 3, [.int .i64 0, .chan (some 30)], .chan (some 41)⟩, ⟨.bin .shl 3, [.chan (some 41), .int .u64 8], .chan (some 51)⟩, ⟨.bin .or 3, [.chan (some 51), .chan (some 31)], .chan (some 42)⟩, ⟨.bin .shl 3, [.chan (some 42), .int .u64 8], .chan (some 52)⟩, ⟨.bin .or 3, [.chan (some 52), .chan (some 32)], .chan (some 43)⟩]

theorem lN3_ok (b0 b1 b2 : UInt8) (rest : List UInt8) (hl : rest.length ≤ 100000) (h0 : b0.toNat ≠ 0) : ∀ x ∈ lN3, FactOk Tryz.prog (nmOf (nmN3 b0 b1 b2 rest)) x := by
  intro x hx
  unfold lN3 at hx
  simp only [List.mem_cons, List.not_mem_nil, or_false] at hx
  rcases hx with rfl | rfl | rfl | rfl | rfl | rfl | rfl | rfl | rfl | rfl | rfl | rfl | rfl | rfl | rfl | rfl | rfl
  · exact fact_idx (.inl ⟨10, rfl, rfl⟩) (.inr ⟨rfl, rfl⟩) rfl (.inr ⟨rfl, rfl⟩)
  · exact fact_ii (.inl ⟨11, rfl, rfl⟩) (.inr ⟨rfl, rfl⟩) (.inr ⟨rfl, rfl⟩) ⟨by decide, by decide⟩ (by simp [binInt]; try omega) rfl
  · exact fact_idx (.inl ⟨10, rfl, rfl⟩) (.inr ⟨rfl, rfl⟩) rfl (.inl ⟨20, rfl, rfl⟩)
  · exact fact_ii (.inl ⟨20, rfl, rfl⟩) (.inr ⟨rfl, rfl⟩) (.inr ⟨rfl, rfl⟩) ⟨by decide, by decide⟩ (by simp [binInt]; omega) rfl
  · exact fact_cv (.inl ⟨20, rfl, rfl⟩) (.inl ⟨30, rfl, by rw [wrap_byte]; rfl⟩)
  · exact fact_idx (.inl ⟨10, rfl, rfl⟩) (.inr ⟨rfl, rfl⟩) rfl (.inl ⟨21, rfl, rfl⟩)
  · exact fact_cv (.inl ⟨21, rfl, rfl⟩) (.inl ⟨31, rfl, by rw [wrap_byte]; rfl⟩)
  · exact fact_idx (.inl ⟨10, rfl, rfl⟩) (.inr ⟨rfl, rfl⟩) rfl (.inl ⟨22, rfl, rfl⟩)
  · exact fact_cv (.inl ⟨22, rfl, rfl⟩) (.inl ⟨32, rfl, by rw [wrap_byte]; rfl⟩)
  · exact fact_len (.inl ⟨10, rfl, rfl⟩) (.inl ⟨11, rfl, by simp [nmN3, nmOf, List.lookup, ByteArray.size]; try omega⟩)
  · exact fact_eq (.inl ⟨10, rfl, rfl⟩) (.inr ⟨rfl, rfl⟩) (text_ne _ _)
  · exact fact_ii (.inl ⟨11, rfl, rfl⟩) (.inr ⟨rfl, rfl⟩) (.inr ⟨rfl, rfl⟩) ⟨by decide, by decide⟩ (by simp [binInt]; try omega) rfl
  · exact fact_ii (.inr ⟨rfl, rfl⟩) (.inl ⟨30, rfl, rfl⟩) (.inl ⟨41, rfl, rfl⟩) ⟨by decide, by decide⟩ (or_zero _ (by have := byte_lt b0; omega)) rfl
  · exact fact_sh (.inl ⟨41, rfl, rfl⟩) (.inr ⟨rfl, rfl⟩) (.inl ⟨51, rfl, rfl⟩) (shl_byte _ (by have q0 := byte_lt b0; have q1 := byte_lt b1; have q2 := byte_lt b2; omega)) rfl
  · exact fact_ii (.inl ⟨51, rfl, rfl⟩) (.inl ⟨31, rfl, rfl⟩) (.inl ⟨42, rfl, rfl⟩) ⟨by decide, by decide⟩ (or_byte _ _ (by have q0 := byte_lt b0; have q1 := byte_lt b1; have q2 := byte_lt b2; omega) (by have q0 := byte_lt b0; have q1 := byte_lt b1; have q2 := byte_lt b2; omega)) rfl
  · exact fact_sh (.inl ⟨42, rfl, rfl⟩) (.inr ⟨rfl, rfl⟩) (.inl ⟨52, rfl, rfl⟩) (shl_byte _ (by have q0 := byte_lt b0; have q1 := byte_lt b1; have q2 := byte_lt b2; omega)) rfl
  · exact fact_ii (.inl ⟨52, rfl, rfl⟩) (.inl ⟨32, rfl, rfl⟩) (.inl ⟨43, rfl, rfl⟩) ⟨by decide, by decide⟩ (or_byte _ _ (by have q0 := byte_lt b0; have q1 := byte_lt b1; have q2 := byte_lt b2; omega) (by have q0 := byte_lt b0; have q1 := byte_lt b1; have q2 := byte_lt b2; omega)) rfl

theorem runN3 (nm : Nat → Option Value) : isVal (.tuple #[.chan (some 43), .int .i64 4, .int .i64 0]) ((@go Tryz.prog (factTab Tryz.prog nm lN3) (told []) 100000).call 45 [.chan (some 10)] ⟨.nil, 1000⟩) = true := by kernel_rfl

theorem yieldN3 (b0 b1 b2 : UInt8) (rest : List UInt8) (hl : rest.length ≤ 100000) (h0 : b0.toNat ≠ 0) : Yields Tryz.prog 45 #[.string ⟨(3 :: b0 :: b1 :: b2 :: rest).toArray⟩] (.tuple #[.int .i64 (Int.ofNat (((b0.toNat) * 256 + b1.toNat) * 256 + b2.toNat)), .int .i64 4, .int .i64 0]) := by
  obtain ⟨σ', h⟩ := isVal_ok (runN3 (nmOf (nmN3 b0 b1 b2 rest)))
  refine yields_run (nmOf (nmN3 b0 b1 b2 rest)) lN3 (lN3_ok b0 b1 b2 rest hl h0) (env_none _ _ (lN3_ok b0 b1 b2 rest hl h0)) (us := [_]) base0 (nmOf_range rfl) (.cons (.inl ⟨10, rfl, rfl⟩) .nil) rfl (fun ι3 v' h1 h2 => ?_) h
  exact denl_tuple_eq h1 (us := [_, _, _]) (.cons (.inl ⟨43, rfl, rfl⟩) (.cons (.inr ⟨rfl, rfl⟩) (.cons (.inr ⟨rfl, rfl⟩) .nil))) (by intro h; cases h) h2

def lH3 : List Fact := [⟨.idx 9, [.chan (some 10), .int .i64 0], .int .u8 3⟩, ⟨.bin .gtr 3, [.chan (some 11), .int .i64 1], .bool true⟩, ⟨.idx 9, [.chan (some 10), .int .i64 1], .chan (some 20)⟩, ⟨.bin .eql 5, [.chan (some 20), .int .u8 0], .bool false⟩, ⟨.cv 5 3, [.chan (some 20)], .chan (some 30)⟩, ⟨.idx 9, [.chan (some 10), .int .i64 2], .chan (some 21)⟩, ⟨.cv 5 3, [.chan (some 21)], .chan (some 31)⟩, ⟨.idx 9, [.chan (some 10), .int .i64 3], .chan (some 22)⟩, ⟨.cv 5 3, [.chan (some 22)], .chan (some 32)⟩, ⟨.len 9, [.chan (some 10)], .chan (some 11)⟩, ⟨.bin .eql 3, [.chan (some 11), .int .i64 0], .bool false⟩, ⟨.bin .sub 3, [.chan (some 11), .int .i64 1], .chan (some 12)⟩, ⟨.bin .lss 3, [.chan (some 12), .int .i64 3], .bool false⟩, ⟨.bin .add 3, [.int .i64 0, .chan (some 30)], .chan (some 41)⟩, ⟨.bin .mul 3, [.int .i64 256, .chan (some 41)], .chan (some 51)⟩, ⟨.bin .add 3, [.chan (some 51), .chan (some 31)], .chan (some 42)⟩, ⟨.bin .mul 3, [.int .i64 256, .chan (some 42)], .chan (some 52)⟩, ⟨.bin .add 3, [.chan (some 52), .chan (some 32)], .chan (some 43)⟩]

theorem lH3_ok (b0 b1 b2 : UInt8) (rest : List UInt8) (hl : rest.length ≤ 100000) (h0 : b0.toNat ≠ 0) : ∀ x ∈ lH3, FactOk Tryz.prog (nmOf (nmN3 b0 b1 b2 rest)) x := by
  intro x hx
  unfold lH3 at hx
  simp only [List.mem_cons, List.not_mem_nil, or_false] at hx
  rcases hx with rfl | rfl | rfl | rfl | rfl | rfl | rfl | rfl | rfl | rfl | rfl | rfl | rfl | rfl | rfl | rfl | rfl | rfl
  · exact fact_idx (.inl ⟨10, rfl, rfl⟩) (.inr ⟨rfl, rfl⟩) rfl (.inr ⟨rfl, rfl⟩)
  · exact fact_ii (.inl ⟨11, rfl, rfl⟩) (.inr ⟨rfl, rfl⟩) (.inr ⟨rfl, rfl⟩) ⟨by decide, by decide⟩ (by simp [binInt]; try omega) rfl
  · exact fact_idx (.inl ⟨10, rfl, rfl⟩) (.inr ⟨rfl, rfl⟩) rfl (.inl ⟨20, rfl, rfl⟩)
  · exact fact_ii (.inl ⟨20, rfl, rfl⟩) (.inr ⟨rfl, rfl⟩) (.inr ⟨rfl, rfl⟩) ⟨by decide, by decide⟩ (by simp [binInt]; omega) rfl
  · exact fact_cv (.inl ⟨20, rfl, rfl⟩) (.inl ⟨30, rfl, by rw [wrap_byte]; rfl⟩)
  · exact fact_idx (.inl ⟨10, rfl, rfl⟩) (.inr ⟨rfl, rfl⟩) rfl (.inl ⟨21, rfl, rfl⟩)
  · exact fact_cv (.inl ⟨21, rfl, rfl⟩) (.inl ⟨31, rfl, by rw [wrap_byte]; rfl⟩)
  · exact fact_idx (.inl ⟨10, rfl, rfl⟩) (.inr ⟨rfl, rfl⟩) rfl (.inl ⟨22, rfl, rfl⟩)
  · exact fact_cv (.inl ⟨22, rfl, rfl⟩) (.inl ⟨32, rfl, by rw [wrap_byte]; rfl⟩)
  · exact fact_len (.inl ⟨10, rfl, rfl⟩) (.inl ⟨11, rfl, by simp [nmN3, nmOf, List.lookup, ByteArray.size]; try omega⟩)
  · exact fact_ii (.inl ⟨11, rfl, rfl⟩) (.inr ⟨rfl, rfl⟩) (.inr ⟨rfl, rfl⟩) ⟨by decide, by decide⟩ (by simp [binInt]; try omega) rfl
  · exact fact_ii (.inl ⟨11, rfl, rfl⟩) (.inr ⟨rfl, rfl⟩) (.inl ⟨12, rfl, rfl⟩) ⟨by decide, by decide⟩ (sub_one _ (by omega)) rfl
  · exact fact_ii (.inl ⟨12, rfl, rfl⟩) (.inr ⟨rfl, rfl⟩) (.inr ⟨rfl, rfl⟩) ⟨by decide, by decide⟩ (by simp [binInt]; try omega) rfl
  · exact fact_ii (.inr ⟨rfl, rfl⟩) (.inl ⟨30, rfl, rfl⟩) (.inl ⟨41, rfl, rfl⟩) ⟨by decide, by decide⟩ (add_zero _ (by have := byte_lt b0; omega)) rfl
  · exact fact_ii (.inr ⟨rfl, rfl⟩) (.inl ⟨41, rfl, rfl⟩) (.inl ⟨51, rfl, rfl⟩) ⟨by decide, by decide⟩ (mul_byte _ (by have q0 := byte_lt b0; have q1 := byte_lt b1; have q2 := byte_lt b2; omega)) rfl
  · exact fact_ii (.inl ⟨51, rfl, rfl⟩) (.inl ⟨31, rfl, rfl⟩) (.inl ⟨42, rfl, rfl⟩) ⟨by decide, by decide⟩ (add_byte _ _ (by have q0 := byte_lt b0; have q1 := byte_lt b1; have q2 := byte_lt b2; omega)) rfl
  · exact fact_ii (.inr ⟨rfl, rfl⟩) (.inl ⟨42, rfl, rfl⟩) (.inl ⟨52, rfl, rfl⟩) ⟨by decide, by decide⟩ (mul_byte _ (by have q0 := byte_lt b0; have q1 := byte_lt b1; have q2 := byte_lt b2; omega)) rfl
  · exact fact_ii (.inl ⟨52, rfl, rfl⟩) (.inl ⟨32, rfl, rfl⟩) (.inl ⟨43, rfl, rfl⟩) ⟨by decide, by decide⟩ (add_byte _ _ (by have q0 := byte_lt b0; have q1 := byte_lt b1; have q2 := byte_lt b2; omega)) rfl

theorem runH3 (nm : Nat → Option Value) : isVal (.tuple #[.chan (some 43), .int .i64 4, .int .i64 0]) ((@go Tryz.prog (factTab Tryz.prog nm lH3) (told []) 100000).call 35 [.chan (some 10)] ⟨.nil, 1000⟩) = true := by kernel_rfl

theorem yieldH3 (b0 b1 b2 : UInt8) (rest : List UInt8) (hl : rest.length ≤ 100000) (h0 : b0.toNat ≠ 0) : Yields Tryz.prog 35 #[.string ⟨(3 :: b0 :: b1 :: b2 :: rest).toArray⟩] (.tuple #[.int .i64 (Int.ofNat (((b0.toNat) * 256 + b1.toNat) * 256 + b2.toNat)), .int .i64 4, .int .i64 0]) := by
  obtain ⟨σ', h⟩ := isVal_ok (runH3 (nmOf (nmN3 b0 b1 b2 rest)))
  refine yields_run (nmOf (nmN3 b0 b1 b2 rest)) lH3 (lH3_ok b0 b1 b2 rest hl h0) (env_none _ _ (lH3_ok b0 b1 b2 rest hl h0)) (us := [_]) base0 (nmOf_range rfl) (.cons (.inl ⟨10, rfl, rfl⟩) .nil) rfl (fun ι3 v' h1 h2 => ?_) h
  exact denl_tuple_eq h1 (us := [_, _, _]) (.cons (.inl ⟨43, rfl, rfl⟩) (.cons (.inr ⟨rfl, rfl⟩) (.cons (.inr ⟨rfl, rfl⟩) .nil))) (by intro h; cases h) h2

def nmN4 (b0 b1 b2 b3 : UInt8) (rest : List UInt8) : List (Nat × Value) := [(10, .string ⟨(4 :: b0 :: b1 :: b2 :: b3 :: rest).toArray⟩), (11, .int .i64 (Int.ofNat (rest.length + 5))), (12, .int .i64 (Int.ofNat (rest.length + 4))), (20, .int .u8 b0.toNat), (30, .int .i64 (Int.ofNat (b0.toNat))), (21, .int .u8 b1.toNat), (31, .int .i64 (Int.ofNat (b1.toNat))), (22, .int .u8 b2.toNat), (32, .int .i64 (Int.ofNat (b2.toNat))), (23, .int .u8 b3.toNat), (33, .int .i64 (Int.ofNat (b3.toNat))), (41, .int .i64 (Int.ofNat (b0.toNat))), (42, .int .i64 (Int.ofNat ((b0.toNat) * 256 + b1.toNat))), (43, .int .i64 (Int.ofNat (((b0.toNat) * 256 + b1.toNat) * 256 + b2.toNat))), (44, .int .i64 (Int.ofNat ((((b0.toNat) * 256 + b1.toNat) * 256 + b2.toNat) * 256 + b3.toNat))), (51, .int .i64 (Int.ofNat ((b0.toNat) * 256))), (52, .int .i64 (Int.ofNat (((b0.toNat) * 256 + b1.toNat) * 256))), (53, .int .i64 (Int.ofNat ((((b0.toNat) * 256 + b1.toNat) * 256 + b2.toNat) * 256)))]

def lN4 : List Fact := [⟨.idx 9, [.chan (some 10), .int .i64 0], .int .u8 4⟩, ⟨.bin .gtr 3, [.chan (some 11), .int .i64 1], .bool true⟩, ⟨.idx 9, [.chan (some 10), .int .i64 1], .chan (some 20)⟩, ⟨.bin .eql 5, [.chan (some 20), .int .u8 0], .bool false⟩, ⟨.cv 5 3, [.chan (some 20)], .chan (some 30)⟩, ⟨.idx 9, [.chan (some 10), .int .i64 2], .chan (some 21)⟩, ⟨.cv 5 3, [.chan (some 21)], .chan (some 31)⟩, ⟨.idx 9, [.chan (some 10), .int .i64 3], .chan (some 22)⟩, ⟨.cv 5 3, [.chan (some 22)], .chan (some 32)⟩, ⟨.idx 9, [.chan (some 10), .int .i64 4], .chan (some 23)⟩, ⟨.cv 5 3, [.chan (some 23)], .chan (some 33)⟩, ⟨.len 9, [.chan (some 10)], .chan (some 11)⟩, ⟨.bin .eql 9, [.chan (some 10), .string ⟨#[]⟩], .bool false⟩, ⟨.bin .leq 3, [.chan (some 11), .int .i64 4], .bool false⟩, ⟨.bin .or 3, [.int .i64 0, .chan (some 30)], .chan (some 41)⟩, ⟨.bin .shl 3, [.chan (some 41), .int .u64 8], .chan (some 51)⟩, ⟨.bin .or 3, [.chan (some 51), .chan (some 31)], .chan (some 42)⟩, ⟨.bin .shl 3, [.chan (some 42), .int .u64 8], .chan (some 52)⟩, ⟨.bin .or 3, [.chan (some 52), .chan (some 32)], .chan (some 43)⟩, ⟨.bin .shl 3, [.chan (some 43), .int .u64 8], .chan (some 53)⟩, ⟨.bin .or 3, [.chan (some 53), .chan (some 33)], .chan (some 44)⟩]

theorem lN4_ok (b0 b1 b2 b3 : UInt8) (rest : List UInt8) (hl : rest.length ≤ 100000) (h0 : b0.toNat ≠ 0) : ∀ x ∈ lN4, FactOk Tryz.prog (nmOf (nmN4 b0 b1 b2 b3 rest)) x := by
  intro x hx
  unfold lN4 at hx
  simp only [List.mem_cons, List.not_mem_nil, or_false] at hx
  rcases hx with rfl | rfl | rfl | rfl | rfl | rfl | rfl | rfl | rfl | rfl | rfl | rfl | rfl | rfl | rfl | rfl | rfl | rfl | rfl | rfl | rfl
  · exact fact_idx (.inl ⟨10, rfl, rfl⟩) (.inr ⟨rfl, rfl⟩) rfl (.inr ⟨rfl, rfl⟩)
  · exact fact_ii (.inl ⟨11, rfl, rfl⟩) (.inr ⟨rfl, rfl⟩) (.inr ⟨rfl, rfl⟩) ⟨by decide, by decide⟩ (by simp [binInt]; try omega) rfl
  · exact fact_idx (.inl ⟨10, rfl, rfl⟩) (.inr ⟨rfl, rfl⟩) rfl (.inl ⟨20, rfl, rfl⟩)
  · exact fact_ii (.inl ⟨20, rfl, rfl⟩) (.inr ⟨rfl, rfl⟩) (.inr ⟨rfl, rfl⟩) ⟨by decide, by decide⟩ (by simp [binInt]; omega) rfl
  · exact fact_cv (.inl ⟨20, rfl, rfl⟩) (.inl ⟨30, rfl, by rw [wrap_byte]; rfl⟩)
  · exact fact_idx (.inl ⟨10, rfl, rfl⟩) (.inr ⟨rfl, rfl⟩) rfl (.inl ⟨21, rfl, rfl⟩)
  · exact fact_cv (.inl ⟨21, rfl, rfl⟩) (.inl ⟨31, rfl, by rw [wrap_byte]; rfl⟩)
  · exact fact_idx (.inl ⟨10, rfl, rfl⟩) (.inr ⟨rfl, rfl⟩) rfl (.inl ⟨22, rfl, rfl⟩)
  · exact fact_cv (.inl ⟨22, rfl, rfl⟩) (.inl ⟨32, rfl, by rw [wrap_byte]; rfl⟩)
  · exact fact_idx (.inl ⟨10, rfl, rfl⟩) (.inr ⟨rfl, rfl⟩) rfl (.inl ⟨23, rfl, rfl⟩)
  · exact fact_cv (.inl ⟨23, rfl, rfl⟩) (.inl ⟨33, rfl, by rw [wrap_byte]; rfl⟩)
  · exact fact_len (.inl ⟨10, rfl, rfl⟩) (.inl ⟨11, rfl, by simp [nmN4, nmOf, List.lookup, ByteArray.size]; try omega⟩)
  · exact fact_eq (.inl ⟨10, rfl, rfl⟩) (.inr ⟨rfl, rfl⟩) (text_ne _ _)
  · exact fact_ii (.inl ⟨11, rfl, rfl⟩) (.inr ⟨rfl, rfl⟩) (.inr ⟨rfl, rfl⟩) ⟨by decide, by decide⟩ (by simp [binInt]; try omega) rfl
  · exact fact_ii (.inr ⟨rfl, rfl⟩) (.inl ⟨30, rfl, rfl⟩) (.inl ⟨41, rfl, rfl⟩) ⟨by decide, by decide⟩ (or_zero _ (by have := byte_lt b0; omega)) rfl
  · exact fact_sh (.inl ⟨41, rfl, rfl⟩) (.inr ⟨rfl, rfl⟩) (.inl ⟨51, rfl, rfl⟩) (shl_byte _ (by have q0 := byte_lt b0; have q1 := byte_lt b1; have q2 := byte_lt b2; have q3 := byte_lt b3; omega)) rfl
  · exact fact_ii (.inl ⟨51, rfl, rfl⟩) (.inl ⟨31, rfl, rfl⟩) (.inl ⟨42, rfl, rfl⟩) ⟨by decide, by decide⟩ (or_byte _ _ (by have q0 := byte_lt b0; have q1 := byte_lt b1; have q2 := byte_lt b2; have q3 := byte_lt b3; omega) (by have q0 := byte_lt b0; have q1 := byte_lt b1; have q2 := byte_lt b2; have q3 := byte_lt b3; omega)) rfl
  · exact fact_sh (.inl ⟨42, rfl, rfl⟩) (.inr ⟨rfl, rfl⟩) (.inl ⟨52, rfl, rfl⟩) (shl_byte _ (by have q0 := byte_lt b0; have q1 := byte_lt b1; have q2 := byte_lt b2; have q3 := byte_lt b3; omega)) rfl
  · exact fact_ii (.inl ⟨52, rfl, rfl⟩) (.inl ⟨32, rfl, rfl⟩) (.inl ⟨43, rfl, rfl⟩) ⟨by decide, by decide⟩ (or_byte _ _ (by have q0 := byte_lt b0; have q1 := byte_lt b1; have q2 := byte_lt b2; have q3 := byte_lt b3; omega) (by have q0 := byte_lt b0; have q1 := byte_lt b1; have q2 := byte_lt b2; have q3 := byte_lt b3; omega)) rfl
  · exact fact_sh (.inl ⟨43, rfl, rfl⟩) (.inr ⟨rfl, rfl⟩) (.inl ⟨53, rfl, rfl⟩) (shl_byte _ (by have q0 := byte_lt b0; have q1 := byte_lt b1; have q2 := byte_lt b2; have q3 := byte_lt b3; omega)) rfl
  · exact fact_ii (.inl ⟨53, rfl, rfl⟩) (.inl ⟨33, rfl, rfl⟩) (.inl ⟨44, rfl, rfl⟩) ⟨by decide, by decide⟩ (or_byte _ _ (by have q0 := byte_lt b0; have q1 := byte_lt b1; have q2 := byte_lt b2; have q3 := byte_lt b3; omega) (by have q0 := byte_lt b0; have q1 := byte_lt b1; have q2 := byte_lt b2; have q3 := byte_lt b3; omega)) rfl

theorem runN4 (nm : Nat → Option Value) : isVal (.tuple #[.chan (some 44), .int .i64 5, .int .i64 0]) ((@go Tryz.prog (factTab Tryz.prog nm lN4) (told []) 100000).call 45 [.chan (some 10)] ⟨.nil, 1000⟩) = true := by kernel_rfl

theorem yieldN4 (b0 b1 b2 b3 : UInt8) (rest : List UInt8) (hl : rest.length ≤ 100000) (h0 : b0.toNat ≠ 0) : Yields Tryz.prog 45 #[.string ⟨(4 :: b0 :: b1 :: b2 :: b3 :: rest).toArray⟩] (.tuple #[.int .i64 (Int.ofNat ((((b0.toNat) * 256 + b1.toNat) * 256 + b2.toNat) * 256 + b3.toNat)), .int .i64 5, .int .i64 0]) := by
  obtain ⟨σ', h⟩ := isVal_ok (runN4 (nmOf (nmN4 b0 b1 b2 b3 rest)))
  refine yields_run (nmOf (nmN4 b0 b1 b2 b3 rest)) lN4 (lN4_ok b0 b1 b2 b3 rest hl h0) (env_none _ _ (lN4_ok b0 b1 b2 b3 rest hl h0)) (us := [_]) base0 (nmOf_range rfl) (.cons (.inl ⟨10, rfl, rfl⟩) .nil) rfl (fun ι3 v' h1 h2 => ?_) h
  exact denl_tuple_eq h1 (us := [_, _, _]) (.cons (.inl ⟨44, rfl, rfl⟩) (.cons (.inr ⟨rfl, rfl⟩) (.cons (.inr ⟨rfl, rfl⟩) .nil))) (by intro h; cases h) h2

def lH4 : List Fact := [⟨.idx 9, [.chan (some 10), .int .i64 0], .int .u8 4⟩, ⟨.bin .gtr 3, [.chan (some 11), .int .i64 1], .bool true⟩, ⟨.idx 9, [.chan (some 10), .int .i64 1], .chan (some 20)⟩, ⟨.bin .eql 5, [.chan (some 20), .int .u8 0], .bool false⟩, ⟨.cv 5 3, [.chan (some 20)], .chan (some 30)⟩, ⟨.idx 9, [.chan (some 10), .int .i64 2], .chan (some 21)⟩, ⟨.cv 5 3, [.chan (some 21)], .chan (some 31)⟩, ⟨.idx 9, [.chan (some 10), .int .i64 3], .chan (some 22)⟩, ⟨.cv 5 3, [.chan (some 22)], .chan (some 32)⟩, ⟨.idx 9, [.chan (some 10), .int .i64 4], .chan (some 23)⟩, ⟨.cv 5 3, [.chan (some 23)], .chan (some 33)⟩, ⟨.len 9, [.chan (some 10)], .chan (some 11)⟩, ⟨.bin .eql 3, [.chan (some 11), .int .i64 0], .bool false⟩, ⟨.bin .sub 3, [.chan (some 11), .int .i64 1], .chan (some 12)⟩, ⟨.bin .lss 3, [.chan (some 12), .int .i64 4], .bool false⟩, ⟨.bin .add 3, [.int .i64 0, .chan (some 30)], .chan (some 41)⟩, ⟨.bin .mul 3, [.int .i64 256, .chan (some 41)], .chan (some 51)⟩, ⟨.bin .add 3, [.chan (some 51), .chan (some 31)], .chan (some 42)⟩, ⟨.bin .mul 3, [.int .i64 256, .chan (some 42)], .chan (some 52)⟩, ⟨.bin .add 3, [.chan (some 52), .chan (some 32)], .chan (some 43)⟩, ⟨.bin .mul 3, [.int .i64 256, .chan (some 43)], .chan (some 53)⟩, ⟨.bin .add 3, [.chan (some 53), .chan (some 33)], .chan (some 44)⟩]

theorem lH4_ok (b0 b1 b2 b3 : UInt8) (rest : List UInt8) (hl : rest.length ≤ 100000) (h0 : b0.toNat ≠ 0) : ∀ x ∈ lH4, FactOk Tryz.prog (nmOf (nmN4 b0 b1 b2 b3 rest)) x := by
  intro x hx
  unfold lH4 at hx
  simp only [List.mem_cons, List.not_mem_nil, or_false] at hx
  rcases hx with rfl | rfl | rfl | rfl | rfl | rfl | rfl | rfl | rfl | rfl | rfl | rfl | rfl | rfl | rfl | rfl | rfl | rfl | rfl | rfl | rfl | rfl
  · exact fact_idx (.inl ⟨10, rfl, rfl⟩) (.inr ⟨rfl, rfl⟩) rfl (.inr ⟨rfl, rfl⟩)
  · exact fact_ii (.inl ⟨11, rfl, rfl⟩) (.inr ⟨rfl, rfl⟩) (.inr ⟨rfl, rfl⟩) ⟨by decide, by decide⟩ (by simp [binInt]; try omega) rfl
  · exact fact_idx (.inl ⟨10, rfl, rfl⟩) (.inr ⟨rfl, rfl⟩) rfl (.inl ⟨20, rfl, rfl⟩)
  · exact fact_ii (.inl ⟨20, rfl, rfl⟩) (.inr ⟨rfl, rfl⟩) (.inr ⟨rfl, rfl⟩) ⟨by decide, by decide⟩ (by simp [binInt]; omega) rfl
  · exact fact_cv (.inl ⟨20, rfl, rfl⟩) (.inl ⟨30, rfl, by rw [wrap_byte]; rfl⟩)
  · exact fact_idx (.inl ⟨10, rfl, rfl⟩) (.inr ⟨rfl, rfl⟩) rfl (.inl ⟨21, rfl, rfl⟩)
  · exact fact_cv (.inl ⟨21, rfl, rfl⟩) (.inl ⟨31, rfl, by rw [wrap_byte]; rfl⟩)
  · exact fact_idx (.inl ⟨10, rfl, rfl⟩) (.inr ⟨rfl, rfl⟩) rfl (.inl ⟨22, rfl, rfl⟩)
  · exact fact_cv (.inl ⟨22, rfl, rfl⟩) (.inl ⟨32, rfl, by rw [wrap_byte]; rfl⟩)
  · exact fact_idx (.inl ⟨10, rfl, rfl⟩) (.inr ⟨rfl, rfl⟩) rfl (.inl ⟨23, rfl, rfl⟩)
  · exact fact_cv (.inl ⟨23, rfl, rfl⟩) (.inl ⟨33, rfl, by rw [wrap_byte]; rfl⟩)
  · exact fact_len (.inl ⟨10, rfl, rfl⟩) (.inl ⟨11, rfl, by simp [nmN4, nmOf, List.lookup, ByteArray.size]; try omega⟩)
  · exact fact_ii (.inl ⟨11, rfl, rfl⟩) (.inr ⟨rfl, rfl⟩) (.inr ⟨rfl, rfl⟩) ⟨by decide, by decide⟩ (by simp [binInt]; try omega) rfl
  · exact fact_ii (.inl ⟨11, rfl, rfl⟩) (.inr ⟨rfl, rfl⟩) (.inl ⟨12, rfl, rfl⟩) ⟨by decide, by decide⟩ (sub_one _ (by omega)) rfl
  · exact fact_ii (.inl ⟨12, rfl, rfl⟩) (.inr ⟨rfl, rfl⟩) (.inr ⟨rfl, rfl⟩) ⟨by decide, by decide⟩ (by simp [binInt]; try omega) rfl
  · exact fact_ii (.inr ⟨rfl, rfl⟩) (.inl ⟨30, rfl, rfl⟩) (.inl ⟨41, rfl, rfl⟩) ⟨by decide, by decide⟩ (add_zero _ (by have := byte_lt b0; omega)) rfl
  · exact fact_ii (.inr ⟨rfl, rfl⟩) (.inl ⟨41, rfl, rfl⟩) (.inl ⟨51, rfl, rfl⟩) ⟨by decide, by decide⟩ (mul_byte _ (by have q0 := byte_lt b0; have q1 := byte_lt b1; have q2 := byte_lt b2; have q3 := byte_lt b3; omega)) rfl
  · exact fact_ii (.inl ⟨51, rfl, rfl⟩) (.inl ⟨31, rfl, rfl⟩) (.inl ⟨42, rfl, rfl⟩) ⟨by decide, by decide⟩ (add_byte _ _ (by have q0 := byte_lt b0; have q1 := byte_lt b1; have q2 := byte_lt b2; have q3 := byte_lt b3; omega)) rfl
  · exact fact_ii (.inr ⟨rfl, rfl⟩) (.inl ⟨42, rfl, rfl⟩) (.inl ⟨52, rfl, rfl⟩) ⟨by decide, by decide⟩ (mul_byte _ (by have q0 := byte_lt b0; have q1 := byte_lt b1; have q2 := byte_lt b2; have q3 := byte_lt b3; omega)) rfl
  · exact fact_ii (.inl ⟨52, rfl, rfl⟩) (.inl ⟨32, rfl, rfl⟩) (.inl ⟨43, rfl, rfl⟩) ⟨by decide, by decide⟩ (add_byte _ _ (by have q0 := byte_lt b0; have q1 := byte_lt b1; have q2 := byte_lt b2; have q3 := byte_lt b3; omega)) rfl
  · exact fact_ii (.inr ⟨rfl, rfl⟩) (.inl ⟨43, rfl, rfl⟩) (.inl ⟨53, rfl, rfl⟩) ⟨by decide, by decide⟩ (mul_byte _ (by have q0 := byte_lt b0; have q1 := byte_lt b1; have q2 := byte_lt b2; have q3 := byte_lt b3; omega)) rfl
  · exact fact_ii (.inl ⟨53, rfl, rfl⟩) (.inl ⟨33, rfl, rfl⟩) (.inl ⟨44, rfl, rfl⟩) ⟨by decide, by decide⟩ (add_byte _ _ (by have q0 := byte_lt b0; have q1 := byte_lt b1; have q2 := byte_lt b2; have q3 := byte_lt b3; omega)) rfl

theorem runH4 (nm : Nat → Option Value) : isVal (.tuple #[.chan (some 44), .int .i64 5, .int .i64 0]) ((@go Tryz.prog (factTab Tryz.prog nm lH4) (told []) 100000).call 35 [.chan (some 10)] ⟨.nil, 1000⟩) = true := by kernel_rfl

theorem yieldH4 (b0 b1 b2 b3 : UInt8) (rest : List UInt8) (hl : rest.length ≤ 100000) (h0 : b0.toNat ≠ 0) : Yields Tryz.prog 35 #[.string ⟨(4 :: b0 :: b1 :: b2 :: b3 :: rest).toArray⟩] (.tuple #[.int .i64 (Int.ofNat ((((b0.toNat) * 256 + b1.toNat) * 256 + b2.toNat) * 256 + b3.toNat)), .int .i64 5, .int .i64 0]) := by
  obtain ⟨σ', h⟩ := isVal_ok (runH4 (nmOf (nmN4 b0 b1 b2 b3 rest)))
  refine yields_run (nmOf (nmN4 b0 b1 b2 b3 rest)) lH4 (lH4_ok b0 b1 b2 b3 rest hl h0) (env_none _ _ (lH4_ok b0 b1 b2 b3 rest hl h0)) (us := [_]) base0 (nmOf_range rfl) (.cons (.inl ⟨10, rfl, rfl⟩) .nil) rfl (fun ι3 v' h1 h2 => ?_) h
  exact denl_tuple_eq h1 (us := [_, _, _]) (.cons (.inl ⟨44, rfl, rfl⟩) (.cons (.inr ⟨rfl, rfl⟩) (.cons (.inr ⟨rfl, rfl⟩) .nil))) (by intro h; cases h) h2


end Go.Cx
