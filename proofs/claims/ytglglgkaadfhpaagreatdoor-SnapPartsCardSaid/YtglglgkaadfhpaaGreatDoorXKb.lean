/-
  CxKb: awake() is true.
-/
import Derived.Test.YtglglgkaadfhpaaGreatDoorXKa
import Derived.Test.YtglglgkaadfhpaaGreatDoorXKc
import Derived.Test.YtglglgkaadfhpaaGreatDoorXNa
set_option linter.all false
namespace Go.Cx
open Go.Proofs
set_option maxRecDepth 1000000
set_option maxHeartbeats 4000000

def k34 : Known := ⟨34, [gen0], rowsOf two, idV⟩
def k155 : Known := ⟨155, [gen0], rowsOf two, idS⟩

theorem good34 (T : Tab Tryz.prog) : @Good Tryz.prog T k34 := good_runS T (by kernel_rfl) (by kernel_rfl) run34
theorem good155 (T : Tab Tryz.prog) : @Good Tryz.prog T k155 := good_runS T (by kernel_rfl) (by kernel_rfl) run155

theorem good_two (T : Tab Tryz.prog) : ∀ x ∈ [k34, k155], @Good Tryz.prog T x := by
  intro x hx
  simp only [List.mem_cons, List.not_mem_nil, or_false] at hx
  rcases hx with rfl | rfl
  · exact good34 T
  · exact good155 T

theorem run4 : run2 [k34, k155] 4 [] = some (.bool true) := by kernel_rfl

def k4 : Known := ⟨4, [], rowsOf two, .bool true⟩

theorem good4 (T : Tab Tryz.prog) : @Good Tryz.prog T k4 := good_run2 T (good_two (noTab Tryz.prog)) rfl rfl run4

end Go.Cx

/-
  CxKd: small calls with flat arguments, run once: so that the ways of SnapParts are shorter.
-/

namespace Go.Cx
open Go.Proofs
set_option maxRecDepth 1000000
set_option maxHeartbeats 4000000

/-- A run on an empty heap, without names. -/
noncomputable def run0 (f : FuncId) (args : List Value) : Option Value := seen (rowsOf []) ((@go Tryz.prog (noTab Tryz.prog) (told []) 100000).call f args (hpOf 1000 (rowsOf [])))

theorem good_run0 (T : Tab Tryz.prog) {f : FuncId} {args : List Value} {v : Value} (hargs : args.all (flatN 1000 8) = true) (hv : flatN 1000 8 v = true)
    (h : run0 f args = some v) : @Good Tryz.prog T ⟨f, args, [], v⟩ :=
  good_rows T (noTab Tryz.prog) (noTab_ok Tryz.prog) (@env_told (noTab Tryz.prog) (noTab_ok Tryz.prog) _ (fun _ h => by cases h)) (l := []) rfl base0 (fun _ _ h => by cases h) hargs hv h

def wts : Value := .agg #[.int .i64 1, .int .i64 0, .int .i64 0, .int .i64 0, .int .i64 0, .int .i64 0, .int .i64 0, .int .i64 0, .int .i64 0, .int .i64 0, .int .i64 0, .int .i64 0, .int .i64 0, .int .i64 0, .int .i64 0, .int .i64 0, .int .i64 0, .int .i64 0, .int .i64 0, .int .i64 0, .int .i64 0, .int .i64 0, .int .i64 0, .int .i64 0, .int .i64 0, .int .i64 0, .int .i64 0, .int .i64 0, .int .i64 0, .int .i64 0, .int .i64 0, .int .i64 0, .int .i64 0, .int .i64 0, .int .i64 0, .int .i64 0, .int .i64 0, .int .i64 0, .int .i64 0, .int .i64 0, .int .i64 0, .int .i64 0, .int .i64 0, .int .i64 0, .int .i64 0, .int .i64 0, .int .i64 0, .int .i64 0, .int .i64 0, .int .i64 0, .int .i64 0, .int .i64 0, .int .i64 0, .int .i64 0, .int .i64 0, .int .i64 0, .int .i64 0, .int .i64 0, .int .i64 0, .int .i64 0, .int .i64 0, .int .i64 0, .int .i64 0, .int .i64 0]
def zeroRes : Value := .tuple #[.int .i64 0, .int .i64 1, .int .i64 0]

def small : List Known := [⟨196, [.int .u64 1], [], .int .i64 1⟩, ⟨55, [.slice none 0 0], [], .slice none 0 0⟩, ⟨114, [.slice none 0 0], [], .string ⟨#[]⟩⟩, ⟨151, [wts], [], .int .i64 1⟩,
  ⟨45, [.string ⟨#[0]⟩], [], zeroRes⟩, ⟨45, [.string ⟨#[0, 0]⟩], [], zeroRes⟩, ⟨45, [.string ⟨#[0, 0, 0]⟩], [], zeroRes⟩, ⟨45, [.string ⟨#[0, 0, 0, 0]⟩], [], zeroRes⟩, ⟨45, [.string ⟨#[0, 0, 0, 0, 0]⟩], [], zeroRes⟩,
  ⟨196, [.int .u64 0], [], .int .i64 0⟩, ⟨152, [gen0], [], .string ⟨#[0, 1, 2, 0]⟩⟩]

theorem r1 : run0 196 [.int .u64 1] = some (.int .i64 1) := by kernel_rfl
theorem r2 : run0 55 [.slice none 0 0] = some (.slice none 0 0) := by kernel_rfl
theorem r3 : run0 114 [.slice none 0 0] = some (.string ⟨#[]⟩) := by kernel_rfl
theorem r4 : run0 151 [wts] = some (.int .i64 1) := by kernel_rfl
theorem r5 : run0 45 [.string ⟨#[0]⟩] = some zeroRes := by kernel_rfl
theorem r6 : run0 45 [.string ⟨#[0, 0]⟩] = some zeroRes := by kernel_rfl
theorem r7 : run0 45 [.string ⟨#[0, 0, 0]⟩] = some zeroRes := by kernel_rfl
theorem r8 : run0 45 [.string ⟨#[0, 0, 0, 0]⟩] = some zeroRes := by kernel_rfl
theorem r9 : run0 45 [.string ⟨#[0, 0, 0, 0, 0]⟩] = some zeroRes := by kernel_rfl
theorem r10 : run0 196 [.int .u64 0] = some (.int .i64 0) := by kernel_rfl
theorem r11 : run0 152 [gen0] = some (.string ⟨#[0, 1, 2, 0]⟩) := by kernel_rfl

theorem small_ok (T : Tab Tryz.prog) : ∀ x ∈ small, @Good Tryz.prog T x := by
  intro x hx
  unfold small at hx
  simp only [List.mem_cons, List.not_mem_nil, or_false] at hx
  rcases hx with rfl | rfl | rfl | rfl | rfl | rfl | rfl | rfl | rfl | rfl | rfl
  · exact good_run0 T rfl rfl r1
  · exact good_run0 T rfl rfl r2
  · exact good_run0 T rfl rfl r3
  · exact good_run0 T (by kernel_rfl) rfl r4
  · exact good_run0 T (by kernel_rfl) (by kernel_rfl) r5
  · exact good_run0 T (by kernel_rfl) (by kernel_rfl) r6
  · exact good_run0 T (by kernel_rfl) (by kernel_rfl) r7
  · exact good_run0 T (by kernel_rfl) (by kernel_rfl) r8
  · exact good_run0 T (by kernel_rfl) (by kernel_rfl) r9
  · exact good_run0 T rfl rfl r10
  · exact good_run0 T (by kernel_rfl) (by kernel_rfl) r11

end Go.Cx
