/-
  CxNg: Tipset's runs: names that rise.
-/
import Derived.Test.YtglglgkaadfhpaaGreatDoorXNd
set_option linter.all false
namespace Go.Cx
set_option maxRecDepth 1000000
set_option maxHeartbeats 4000000

noncomputable def rises (nm : Nat → Option Value) (x : Nat × Option Nat) : Bool := isSome (errV 7) (runQ nm x.1 x.2 true ordRise)

def rise1 : List (Nat × Option Nat) := [(1, none), (2, none), (2, some 0), (2, some 1)]
def rise2 : List (Nat × Option Nat) := [(3, none), (3, some 0), (3, some 1), (3, some 2)]
def rise3 : List (Nat × Option Nat) := [(4, none), (4, some 0)]
def rise4 : List (Nat × Option Nat) := [(4, some 1), (4, some 2), (4, some 3)]
def rise5 : List (Nat × Option Nat) := [(5, none), (5, some 0)]
def rise6 : List (Nat × Option Nat) := [(5, some 1), (5, some 2)]
def rise7 : List (Nat × Option Nat) := [(5, some 3), (5, some 4)]

theorem runs1 (nm : Nat → Option Value) : (rise1.all (rises nm)) = true := by kernel_rfl
theorem runs2 (nm : Nat → Option Value) : (rise2.all (rises nm)) = true := by kernel_rfl
theorem runs3 (nm : Nat → Option Value) : (rise3.all (rises nm)) = true := by kernel_rfl
theorem runs4 (nm : Nat → Option Value) : (rise4.all (rises nm)) = true := by kernel_rfl
theorem runs5 (nm : Nat → Option Value) : (rise5.all (rises nm)) = true := by kernel_rfl
theorem runs6 (nm : Nat → Option Value) : (rise6.all (rises nm)) = true := by kernel_rfl
theorem runs7 (nm : Nat → Option Value) : (rise7.all (rises nm)) = true := by kernel_rfl

def riseCases : List (Nat × Option Nat) := rise1 ++ (rise2 ++ (rise3 ++ (rise4 ++ (rise5 ++ (rise6 ++ rise7)))))

theorem runs_rise (nm : Nat → Option Value) : (riseCases.all (rises nm)) = true := by
  unfold riseCases
  simp only [List.all_append, runs1, runs2, runs3, runs4, runs5, runs6, runs7, Bool.and_self]

end Go.Cx
