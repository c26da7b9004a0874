/-
  CxOa: the turns of words, known for each word: digest.turn (150), coxswainref02.turn (243) and down (244).
-/
import Derived.Test.YtglglgkaadfhpaaGreatDoorXNa
set_option linter.all false
namespace Go.Cx
open Go.Proofs
set_option maxRecDepth 1000000

theorem wr_u32 (n : Nat) : wr .u32 (Int.ofNat n) = Int.ofNat (n % 4294967296) := by
  unfold wr
  split
  · rename_i x hx
    cases hx
    split
    · rename_i hb
      rw [Nat.blt_eq] at hb
      have : n < 4294967296 := hb
      rw [Nat.mod_eq_of_lt this]
    · rfl
  · rename_i h; exact absurd rfl (h n)

theorem wr_u64 {n : Nat} (h : n < 18446744073709551616) : wr .u64 (Int.ofNat n) = Int.ofNat n := by
  have : Nat.blt n (lim .u64) = true := by rw [Nat.blt_eq]; simpa [lim] using h
  simp [wr, this]

/-! ### digest.turn -/
def rot32 (n x : Nat) : Nat := Nat.lor (x * 2 ^ (32 - n) % 4294967296) (x / 2 ^ n) % 4294967296

def nmR (n x : Nat) : List (Nat × Value) := [(10, .int .u32 (Int.ofNat x)), (11, .int .u32 (Int.ofNat (x * 2 ^ (32 - n) % 4294967296))), (12, .int .u32 (Int.ofNat (x / 2 ^ n))), (13, .int .u32 (Int.ofNat (rot32 n x)))]

def lR (n : Nat) : List Fact := [⟨.bin .shl 193, [.chan (some 10), .int .u64 (Int.ofNat (32 - n))], .chan (some 11)⟩, ⟨.bin .shr 193, [.chan (some 10), .int .u64 (Int.ofNat n)], .chan (some 12)⟩, ⟨.bin .or 193, [.chan (some 11), .chan (some 12)], .chan (some 13)⟩]

theorem lR_ok (n x : Nat) (hn : n ≤ 32) : ∀ y ∈ lR n, FactOk Tryz.prog (nmOf (nmR n x)) y := by
  intro y hy
  unfold lR at hy
  simp only [List.mem_cons, List.not_mem_nil, or_false] at hy
  rcases hy with rfl | rfl | rfl
  · refine fact_sh (.inl ⟨10, rfl, rfl⟩) (.inr ⟨rfl, rfl⟩) (.inl ⟨11, rfl, rfl⟩) ?_ rfl
    have : shiftInt .shl .u32 (Int.ofNat x) (Int.ofNat (32 - n)) = some (.int .u32 (wr .u32 (Int.ofNat (x * 2 ^ (min (32 - n) 32))))) := rfl
    rw [this, Nat.min_eq_left (by omega), wr_u32]
  · refine fact_sh (.inl ⟨10, rfl, rfl⟩) (.inr ⟨rfl, rfl⟩) (.inl ⟨12, rfl, rfl⟩) ?_ rfl
    have : shiftInt .shr .u32 (Int.ofNat x) (Int.ofNat n) = some (.int .u32 (Int.ofNat (x / 2 ^ (min n 32)))) := rfl
    rw [this, Nat.min_eq_left hn]
  · refine fact_ii (.inl ⟨11, rfl, rfl⟩) (.inl ⟨12, rfl, rfl⟩) (.inl ⟨13, rfl, rfl⟩) ⟨by decide, by decide⟩ ?_ rfl
    have : ∀ a b : Nat, binInt .or .u32 (Int.ofNat a) (Int.ofNat b) = some (.int .u32 (wr .u32 (Int.ofNat (Nat.lor a b)))) := fun _ _ => rfl
    rw [this, wr_u32]
    rfl

def turns : List Nat := [2, 6, 7, 11, 13, 17, 18, 19, 22, 25]

theorem runR : ∀ (nm : Nat → Option Value), (turns.all fun n => isVal (.chan (some 13)) ((@go Tryz.prog (factTab Tryz.prog nm (lR n)) (told []) 100000).call 150 [.chan (some 10), .int .i64 (Int.ofNat n)] ⟨.nil, 1000⟩)) = true := by
  intro nm
  kernel_rfl

theorem rot_yields (n x : Nat) (hn : n ∈ turns) : Yields Tryz.prog 150 #[.int .u32 (Int.ofNat x), .int .i64 (Int.ofNat n)] (.int .u32 (Int.ofNat (rot32 n x))) := by
  have hle : n ≤ 32 := by
    unfold turns at hn
    simp only [List.mem_cons, List.not_mem_nil, or_false] at hn
    omega
  obtain ⟨σ', h⟩ := isVal_ok (List.all_eq_true.1 (runR (nmOf (nmR n x))) n hn)
  exact yields_run (nmOf (nmR n x)) (lR n) (lR_ok n x hle) (env_none _ _ (lR_ok n x hle)) (us := [_, _]) base0 (nmOf_range rfl) (.cons (.inl ⟨10, rfl, rfl⟩) (.cons (.inr ⟨rfl, rfl⟩) .nil)) rfl (fun ι3 v' h1 h2 => VRel.chan_eq (h1 13 _ rfl) h2) h

/-! ### coxswainref02.turn -/
def itT : Nat → Nat → Nat
  | 0, x => x
  | n + 1, x => itT n x / 2 + itT n x % 2 * 2147483648

theorem itT_lt {x : Nat} (hx : x < 4294967296) : ∀ n, itT n x < 4294967296
  | 0 => hx
  | n + 1 => by
    have := itT_lt hx n
    simp only [itT]
    omega

def u64 (n : Nat) : Value := .int .u64 (Int.ofNat n)

theorem blt_no {a b : Nat} (h : Nat.blt a b = false) : ¬ a < b := fun k => by
  have : Nat.blt a b = true := by rw [Nat.blt_eq]; exact k
  rw [h] at this; cases this

theorem blt_yes {a b : Nat} (h : Nat.blt a b = true) : a < b := by rw [Nat.blt_eq] at h; exact h

def slotT : Nat → Nat → Value
  | 0, y => u64 y
  | 1, y => u64 (y / 2)
  | 2, y => u64 (y % 2)
  | _, y => u64 (y % 2 * 2147483648)

def nmT (x : Nat) (b : Nat) : Option Value :=
  match Nat.blt b 10 || Nat.blt 120 b with
  | true => none
  | false => some (slotT ((b - 10) % 4) (itT ((b - 10) / 4) x))

theorem nmT_range (x : Nat) : ∀ b v, nmT x b = some v → Tryz.prog.globals.size ≤ b ∧ b < 1000 := by
  intro b v h
  unfold nmT at h
  split at h
  · cases h
  · rename_i hb
    simp only [Bool.or_eq_false_iff] at hb
    have h1 := blt_no hb.1
    have h2 := blt_no hb.2
    rw [gsize]; omega

theorem nmT_at (x j i : Nat) (hj : j ≤ 25) (hi : i < 4) : nmT x (10 + 4 * j + i) = some (slotT i (itT j x)) := by
  unfold nmT
  have h1 : Nat.blt (10 + 4 * j + i) 10 = false := by
    cases h : Nat.blt (10 + 4 * j + i) 10 with
    | false => rfl
    | true => rw [Nat.blt_eq] at h; omega
  have h2 : Nat.blt 120 (10 + 4 * j + i) = false := by
    cases h : Nat.blt 120 (10 + 4 * j + i) with
    | false => rfl
    | true => rw [Nat.blt_eq] at h; omega
  have h3 : (10 + 4 * j + i - 10) % 4 = i := by omega
  have h4 : (10 + 4 * j + i - 10) / 4 = j := by omega
  rw [h1, h2, h3, h4]
  rfl

def fT (j : Nat) : List Fact :=
  [⟨.bin .quo 70, [.chan (some (10 + 4 * j + 0)), .int .u64 2], .chan (some (10 + 4 * j + 1))⟩, ⟨.bin .rem 70, [.chan (some (10 + 4 * j + 0)), .int .u64 2], .chan (some (10 + 4 * j + 2))⟩,
   ⟨.bin .mul 70, [.chan (some (10 + 4 * j + 2)), .int .u64 2147483648], .chan (some (10 + 4 * j + 3))⟩, ⟨.bin .add 70, [.chan (some (10 + 4 * j + 1)), .chan (some (10 + 4 * j + 3))], .chan (some (10 + 4 * (j + 1) + 0))⟩]

def lT (n : Nat) : List Fact := (List.range n).flatMap fT

theorem lT_ok (x n : Nat) (hx : x < 4294967296) (hn : n ≤ 25) : ∀ y ∈ lT n, FactOk Tryz.prog (nmT x) y := by
  intro y hy
  unfold lT at hy
  obtain ⟨j, hj, hy⟩ := List.mem_flatMap.1 hy
  have hj : j < n := by simpa using hj
  have hlt := itT_lt hx j
  unfold fT at hy
  simp only [List.mem_cons, List.not_mem_nil, or_false] at hy
  have d0 := nmT_at x j 0 (by omega) (by omega)
  have d1 := nmT_at x j 1 (by omega) (by omega)
  have d2 := nmT_at x j 2 (by omega) (by omega)
  have d3 := nmT_at x j 3 (by omega) (by omega)
  have d4 := nmT_at x (j + 1) 0 (by omega) (by omega)
  rcases hy with rfl | rfl | rfl | rfl
  · refine fact_ii (.inl ⟨_, rfl, d0⟩) (.inr ⟨rfl, rfl⟩) (.inl ⟨_, rfl, d1⟩) ⟨by decide, by decide⟩ ?_ rfl
    have : binInt .quo .u64 (Int.ofNat (itT j x)) 2 = some (.int .u64 (wr .u64 (Int.ofNat (itT j x / 2)))) := rfl
    rw [this, wr_u64 (by omega)]; rfl
  · exact fact_ii (.inl ⟨_, rfl, d0⟩) (.inr ⟨rfl, rfl⟩) (.inl ⟨_, rfl, d2⟩) ⟨by decide, by decide⟩ rfl rfl
  · refine fact_ii (.inl ⟨_, rfl, d2⟩) (.inr ⟨rfl, rfl⟩) (.inl ⟨_, rfl, d3⟩) ⟨by decide, by decide⟩ ?_ rfl
    have : binInt .mul .u64 (Int.ofNat (itT j x % 2)) 2147483648 = some (.int .u64 (wr .u64 (Int.ofNat (itT j x % 2 * 2147483648)))) := rfl
    rw [this, wr_u64 (by omega)]; rfl
  · refine fact_ii (.inl ⟨_, rfl, d1⟩) (.inl ⟨_, rfl, d3⟩) (.inl ⟨_, rfl, d4⟩) ⟨by decide, by decide⟩ ?_ rfl
    have : binInt .add .u64 (Int.ofNat (itT j x / 2)) (Int.ofNat (itT j x % 2 * 2147483648)) = some (.int .u64 (wr .u64 (Int.ofNat (itT j x / 2 + itT j x % 2 * 2147483648)))) := rfl
    rw [this, wr_u64 (by omega)]; rfl

theorem runT : ∀ (nm : Nat → Option Value), (turns.all fun n => isVal (.chan (some (10 + 4 * n + 0))) ((@go Tryz.prog (factTab Tryz.prog nm (lT n)) (told []) 100000).call 243 [.chan (some 10), .int .i64 (Int.ofNat n)] ⟨.nil, 1000⟩)) = true := by
  intro nm
  kernel_rfl

theorem turn_yields (n x : Nat) (hx : x < 4294967296) (hn : n ∈ turns) : Yields Tryz.prog 243 #[u64 x, .int .i64 (Int.ofNat n)] (u64 (itT n x)) := by
  have hle : n ≤ 25 := by
    unfold turns at hn
    simp only [List.mem_cons, List.not_mem_nil, or_false] at hn
    omega
  obtain ⟨σ', h⟩ := isVal_ok (List.all_eq_true.1 (runT (nmT x)) n hn)
  exact yields_run (nmT x) (lT n) (lT_ok x n hx hle) (env_none _ _ (lT_ok x n hx hle)) (us := [_, _]) base0 (nmT_range x) (.cons (.inl ⟨10, rfl, rfl⟩) (.cons (.inr ⟨rfl, rfl⟩) .nil)) rfl (fun ι3 v' h1 h2 => VRel.chan_eq (h1 _ _ (nmT_at x n 0 hle (by omega))) h2) h

/-! ### coxswainref02.down -/
def itD : Nat → Nat → Nat
  | 0, x => x
  | n + 1, x => itD n x / 2

theorem itD_le (x : Nat) : ∀ n, itD n x ≤ x
  | 0 => Nat.le_refl x
  | n + 1 => Nat.le_trans (Nat.div_le_self _ _) (itD_le x n)

def nmD (x : Nat) (b : Nat) : Option Value := match Nat.blt b 10 || Nat.blt 120 b with
  | true => none
  | false => some (u64 (itD (b - 10) x))

theorem nmD_at (x j : Nat) (hj : j ≤ 25) : nmD x (10 + j) = some (u64 (itD j x)) := by
  unfold nmD
  have h1 : Nat.blt (10 + j) 10 = false := by
    cases h : Nat.blt (10 + j) 10 with
    | false => rfl
    | true => rw [Nat.blt_eq] at h; omega
  have h2 : Nat.blt 120 (10 + j) = false := by
    cases h : Nat.blt 120 (10 + j) with
    | false => rfl
    | true => rw [Nat.blt_eq] at h; omega
  have h4 : 10 + j - 10 = j := by omega
  rw [h1, h2, h4]
  rfl

theorem nmD_range (x : Nat) : ∀ b v, nmD x b = some v → Tryz.prog.globals.size ≤ b ∧ b < 1000 := by
  intro b v h
  unfold nmD at h
  split at h
  · cases h
  · rename_i hb
    simp only [Bool.or_eq_false_iff] at hb
    have h1 := blt_no hb.1
    have h2 := blt_no hb.2
    rw [gsize]; omega

def lD (n : Nat) : List Fact := (List.range n).map fun j => ⟨.bin .quo 70, [.chan (some (10 + j)), .int .u64 2], .chan (some (10 + (j + 1)))⟩

theorem lD_ok (x n : Nat) (hx : x < 4294967296) (hn : n ≤ 20) : ∀ y ∈ lD n, FactOk Tryz.prog (nmD x) y := by
  intro y hy
  unfold lD at hy
  obtain ⟨j, hj, rfl⟩ := List.mem_map.1 hy
  have hj : j < n := by simpa using hj
  refine fact_ii (.inl ⟨_, rfl, nmD_at x j (by omega)⟩) (.inr ⟨rfl, rfl⟩) (.inl ⟨_, rfl, nmD_at x (j + 1) (by omega)⟩) ⟨by decide, by decide⟩ ?_ rfl
  have : binInt .quo .u64 (Int.ofNat (itD j x)) 2 = some (.int .u64 (wr .u64 (Int.ofNat (itD j x / 2)))) := rfl
  have hle := itD_le x j
  rw [this, wr_u64 (by omega)]; rfl

def downs : List Nat := [3, 10]

theorem runD : ∀ (nm : Nat → Option Value), (downs.all fun n => isVal (.chan (some (10 + n))) ((@go Tryz.prog (factTab Tryz.prog nm (lD n)) (told []) 100000).call 244 [.chan (some 10), .int .i64 (Int.ofNat n)] ⟨.nil, 1000⟩)) = true := by
  intro nm
  kernel_rfl

theorem down_yields (n x : Nat) (hx : x < 4294967296) (hn : n ∈ downs) : Yields Tryz.prog 244 #[u64 x, .int .i64 (Int.ofNat n)] (u64 (itD n x)) := by
  have hle : n ≤ 20 := by
    unfold downs at hn
    simp only [List.mem_cons, List.not_mem_nil, or_false] at hn
    omega
  obtain ⟨σ', h⟩ := isVal_ok (List.all_eq_true.1 (runD (nmD x)) n hn)
  exact yields_run (nmD x) (lD n) (lD_ok x n hx hle) (env_none _ _ (lD_ok x n hx hle)) (us := [_, _]) base0 (nmD_range x) (.cons (.inl ⟨10, rfl, rfl⟩) (.cons (.inr ⟨rfl, rfl⟩) .nil)) rfl (fun ι3 v' h1 h2 => VRel.chan_eq (h1 _ _ (nmD_at x n (by omega))) h2) h

/-! ### All of them -/
def rules : Oracle := fun f args _ =>
  match f, args with
  | 150, [.int .u32 (.ofNat x), .int .i64 (.ofNat n)] => match turns.any (Nat.beq n) with
    | true => some (.int .u32 (Int.ofNat (rot32 n x)))
    | false => none
  | 243, [.int .u64 (.ofNat x), .int .i64 (.ofNat n)] => match turns.any (Nat.beq n) && Nat.blt x 4294967296 with
    | true => some (u64 (itT n x))
    | false => none
  | 244, [.int .u64 (.ofNat x), .int .i64 (.ofNat n)] => match downs.any (Nat.beq n) && Nat.blt x 4294967296 with
    | true => some (u64 (itD n x))
    | false => none
  | _, _ => none

theorem any_mem {l : List Nat} {n : Nat} (h : l.any (Nat.beq n) = true) : n ∈ l := by
  obtain ⟨m, h1, h2⟩ := List.any_eq_true.1 h
  have : n = m := by simpa using h2
  rw [this]; exact h1

theorem flat_args {ι : Emb} {l : List Value} {l' : List Value} (h : LRel (VRel ι) l l') (hf : l.all (flat 8) = true) : l' = l := by
  induction h with
  | nil => rfl
  | cons h _ ih =>
    simp only [List.all_cons, Bool.and_eq_true] at hf
    rw [flat_eq 8 hf.1 h, ih hf.2]

theorem rules_knows [T : Tab Tryz.prog] : Knows Tryz.prog rules := by
  intro F ho f args σ v ι w args' hO hr hfree ha
  have fin : args.all (flat 8) = true → flat 8 v = true → Yields Tryz.prog f args.toArray v → Gives F Tryz.prog (After Tryz.prog ι σ w σ v) ((callFunc f args').run Tryz.prog w) := by
    intro h1 h2 h3
    have : args' = args.toArray := by apply Array.toList_inj.1; simpa using flat_args ha h1
    subst this
    exact (h3 T ho hr).mono fun v' w' ⟨q1, q2, q3⟩ => ⟨ι, q2, q3, by subst q1; exact flat_refl ι 8 _ h2⟩
  unfold rules at hO
  split at hO
  · rename_i x n
    split at hO
    · rename_i hn
      cases hO
      exact fin rfl rfl (rot_yields n x (any_mem hn))
    · cases hO
  · rename_i x n
    split at hO
    · rename_i hn
      cases hO
      simp only [Bool.and_eq_true] at hn
      exact fin rfl rfl (turn_yields n x (blt_yes hn.2) (any_mem hn.1))
    · cases hO
  · rename_i x n
    split at hO
    · rename_i hn
      cases hO
      simp only [Bool.and_eq_true] at hn
      exact fin rfl rfl (down_yields n x (blt_yes hn.2) (any_mem hn.1))
    · cases hO
  · cases hO

theorem env_rules [Tab Tryz.prog] [TabOk Tryz.prog] : Env Tryz.prog rules := env_gen room0 mixed0 names0 rules_knows

/-- A run on the two rows, by the rules. -/
noncomputable def runS (f : FuncId) (args : List Value) : Option Value := seen (rowsOf two) ((@go Tryz.prog (noTab Tryz.prog) rules 100000).call f args (hpOf 1000 (rowsOf two)))

theorem good_runS (T : Tab Tryz.prog) {f : FuncId} {args : List Value} {v : Value} (hargs : args.all (flatN 1000 8) = true) (hv : flatN 1000 8 v = true) (h : runS f args = some v) : @Good Tryz.prog T ⟨f, args, rowsOf two, v⟩ :=
  good_rows T (noTab Tryz.prog) (noTab_ok Tryz.prog) (@env_rules (noTab Tryz.prog) (noTab_ok Tryz.prog)) two_ok base0 (fun _ _ h => by cases h) hargs hv h

end Go.Cx
