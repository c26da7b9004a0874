/-
  The law SnapParts of package coxswainlaw22 is proved: whatever the clock, the mark and the head, it returns true, and its arguments read as they did. Conditions: those of the given row (the two tables of package digest start as the program's text lays them, which the card ties).
-/
import Derived.Test.YtglglgkaadfhpaaGreatDoorXNm
import Derived.Test.YtglglgkaadfhpaaGreatDoorXNp
import Derived.Test.YtglglgkaadfhpaaGreatDoorCards
import Derived.Test.YtglglgkaadfhpaaGreatDoorTie
import Derived.WalkKit
import Derived.ProofKit
import Derived.OpenShut
import Derived.Deep.DeepHandedRow
import Derived.Lib.LaidTab
import Derived.Stop.LaidErr
set_option linter.all false
namespace Go.Proofs.YtglglgkaadfhpaaGreatDoor
open Go.ChangeShapes Go.WideShapes Go.ChangeAt Go.RowKit
set_option maxRecDepth 100000

theorem own : ownKnob Tryz.prog.godebug = none := by kernel_rfl
theorem gStart : Tryz.prog.globalNamed "coxswain/digest.start" = some 0 := by kernel_rfl
theorem gKey : Tryz.prog.globalNamed "coxswain/digest.key" = some 1 := by kernel_rfl
theorem tStart : (Tryz.prog.globals[0]?).map (·.type) = some 194 := by kernel_rfl
theorem tKey : (Tryz.prog.globals[1]?).map (·.type) = some 269 := by kernel_rfl
theorem under194 : Tryz.prog.underlying 194 = some (.array 8 193) := by kernel_rfl
theorem under269 : Tryz.prog.underlying 269 = some (.array 64 193) := by kernel_rfl
theorem under193 : Tryz.prog.underlying 193 = some (.int .u32) := by kernel_rfl
theorem cells193 : Tryz.prog.cellsOf 193 = 1 := by kernel_rfl
theorem cells194 : Tryz.prog.cellsOf 194 = 8 := by kernel_rfl
theorem cells269 : Tryz.prog.cellsOf 269 = 64 := by kernel_rfl

def startZ : List Int := [1779033703, 3144134277, 1013904242, 2773480762, 1359893119, 2600822924, 528734635, 1541459225]
def keyZ : List Int := [1116352408, 1899447441, 3049323471, 3921009573, 961987163, 1508970993, 2453635748, 2870763221, 3624381080, 310598401, 607225278, 1426881987, 1925078388, 2162078206, 2614888103, 3248222580, 3835390401, 4022224774, 264347078, 604807628, 770255983, 1249150122, 1555081692, 1996064986, 2554220882, 2821834349, 2952996808, 3210313671, 3336571891, 3584528711, 113926993, 338241895, 666307205, 773529912, 1294757372, 1396182291, 1695183700, 1986661051, 2177026350, 2456956037, 2730485921, 2820302411, 3259730800, 3345764771, 3516065817, 3600352804, 4094571909, 275423344, 430227734, 506948616, 659060556, 883997877, 958139571, 1322822218, 1537002063, 1747873779, 1955562222, 2024104815, 2227730452, 2361852424, 2428436474, 2756734187, 3204031479, 3329325298]

theorem laidEq : Rows.snapPartsRow.laid = [("coxswain/digest.start", Lib.tabData .u32 startZ), ("coxswain/digest.key", Lib.tabData .u32 keyZ)] := by kernel_rfl

theorem met {W : World} (h : laidMetH Tryz.prog Rows.snapPartsRow.laid W) : laidMet Tryz.prog [("coxswain/digest.start", Lib.tabData .u32 startZ), ("coxswain/digest.key", Lib.tabData .u32 keyZ)] W := by
  rw [laidEq] at h
  exact h

theorem tabStart {W : World} (h : laidMetH Tryz.prog Rows.snapPartsRow.laid W) : Lib.TabIs Tryz.prog W "coxswain/digest.start" .u32 startZ :=
  Lib.tabIs_of_head gStart tStart under194 under193 cells193 cells194 (met h)
theorem tabKey {W : World} (h : laidMetH Tryz.prog Rows.snapPartsRow.laid W) : Lib.TabIs Tryz.prog W "coxswain/digest.key" .u32 keyZ :=
  Lib.tabIs_of_head gKey tKey under269 under193 cells193 cells269 (met h).tail

theorem zero0 : (((begin Tryz.prog (fun _ _ => 0) default).world.heap[0]?).bind Obj.row?).map (·.2) = some 194 := by kernel_rfl
theorem zero1 : (((begin Tryz.prog (fun _ _ => 0) default).world.heap[1]?).bind Obj.row?).map (·.2) = some 269 := by kernel_rfl

theorem block_of {W : World} {name : String} {zs : List Int} {g : Nat} {t : TypeId} (hsh : W.ShapedOpen Tryz.prog) (hg : Tryz.prog.globalNamed name = some g) (hlt : g < Tryz.prog.globals.size)
    (hz : (((begin Tryz.prog (fun _ _ => 0) default).world.heap[g]?).bind Obj.row?).map (·.2) = some t) (h : Lib.TabIs Tryz.prog W name .u32 zs) : W.heap[g]? = some (.cells (zs.map fun z => Value.int .u32 z).toArray t (0, 0)) := by
  obtain ⟨⟨zero, t'⟩, hr, ht⟩ := Option.map_eq_some_iff.1 hz
  simp only at ht
  subst ht
  obtain ⟨cs, hcs, _, _⟩ := hsh.1 g zero t' hlt hr
  unfold Lib.TabIs World.var? at h
  rw [hg] at h
  simp only [Option.bind_some, hcs, Option.some.injEq] at h
  rw [hcs, h]

theorem contract (H : Type) (enc : TypeId × Value → H) (W : World) (base : Nat) (args : Array Value) (ds gs : List (DataW H)) (before : List MemPlace)
    (hval : ∀ (j : Nat) t v, Tryz.f3.params[j]? = some t → args[j]? = some v → Value.okWide Tryz.prog W .any base t v)
    (hW : DataW.Whole enc Tryz.prog Tryz.f3.params.toList Rows.snapPartsSpec.vars false W args.toList ds gs before) (hL : laidMetH Tryz.prog Rows.snapPartsRow.laid W) (hsh : W.ShapedOpen Tryz.prog) :
    Calls Tryz.prog 3 args W fun e W' => ∃ v, e = .returned v ∧ Rows.snapPartsSpec.post enc Tryz.prog Tryz.f3 false true false false W args v W' := by
  have hW' := hW
  obtain ⟨p, q, hA0, hV, rfl, hfz, hnd⟩ := hW
  have hA : DataW.TrodAll enc Tryz.prog W 0 (fun _ => true) true Tryz.f3.params.toList args.toList ds p := hA0
  rw [Tryz.params3] at hA hval
  obtain ⟨v0, vs0, d0, ds0, p0, q0, hargs, rfl, rfl, h0, r0⟩ := trodAll_cons hA
  obtain ⟨v1, vs1, d1, ds1, p1, q1, rfl, rfl, rfl, h1, r1⟩ := trodAll_cons r0
  obtain ⟨v2, vs2, d2, ds2, p2, q2, rfl, rfl, rfl, h2, r2⟩ := trodAll_cons r1
  obtain ⟨rfl, rfl, rfl⟩ := trodAll_nil r2
  obtain rfl : args = #[v0, v1, v2] := by apply Array.toList_inj.1; simpa using hargs
  obtain ⟨rfl, rfl⟩ := trodVars_none hV
  obtain ⟨a, rfl, rfl, rfl, wa⟩ := open_int Tryz.underlying3 (hval 0 3 v0 rfl rfl) h0
  obtain ⟨m, rfl, rfl, rfl, wm⟩ := Go.ChangeMaps.open_string Tryz.underlying9 (hval 1 9 v1 rfl rfl) h1
  obtain ⟨h, rfl, rfl, rfl, wh⟩ := Go.ChangeMaps.open_string Tryz.underlying9 (hval 2 9 v2 rfl rfl) h2
  clear hA0
  simp only [List.append_nil] at hW'
  have b0 := block_of hsh gStart (by rw [Cx.gsize]; decide) zero0 (tabStart hL)
  have b1 := block_of hsh gKey (by rw [Cx.gsize]; decide) zero1 (tabKey hL)
  refine (Cx.law_calls W a m h b0 b1).mono fun e W' ⟨he, hk⟩ => ?_
  subst he
  refine ⟨_, rfl, _, _, _, [], [], [], hW', ?_, ?_, ?_, ?_, fun h => by cases h⟩
  · exact trodAll_mk1 (shut_bool Tryz.underlying4 true)
  · exact trodAll_cons_mk (shut_int Tryz.underlying3 wa) (trodAll_cons_mk (Go.ChangeMaps.shut_string Tryz.underlying9 wm) (trodAll_cons_mk (Go.ChangeMaps.shut_string Tryz.underlying9 wh) trodAll_mk0))
  · rfl
  · refine ⟨hk.1, hk.2.1, fun i hi => ?_⟩
    rw [hk.2.2.2 i hi]
    cases hq : W.heap[i]? with
    | none => rfl
    | some o =>
      cases o with
      | cells c t f => exact ⟨rfl, rfl, rfl, fun _ _ => rfl⟩
      | map es k => exact .inr ⟨rfl, rfl⟩
      | _ => rfl

/-- A world for the witness: the settled one, the two tables holding what their initialisers lay. -/
def withCells (l : List Int) : Obj → Obj
  | .cells _ t frozen => .cells (l.map fun z => Value.int .u32 z).toArray t frozen
  | o => o
noncomputable def laidWorld (os : Os) : World :=
  { World.holding Tryz.prog os ⟨#[], #[], []⟩ with heap := ((World.holding Tryz.prog os ⟨#[], #[], []⟩).heap.modify 0 (withCells startZ)).modify 1 (withCells keyZ) }

def argsW : Array Value := #[.int .i64 0, .string ⟨#[]⟩, .string ⟨#[]⟩]

theorem laid_met (os : Os) : laidMet Tryz.prog Rows.snapPartsRow.laid ((laidWorld os).forCall (fun _ _ => 0) ⟨#[], argsW, []⟩).memory :=
  laidMet_of_run' 8 (by kernel_rfl) (by kernel_rfl)
theorem reads (os : Os) {H : Type} (enc : TypeId × Value → H) : ∃ places, DataW.whole enc Tryz.prog ((laidWorld os).forCall (fun _ _ => 0) ⟨#[], argsW, []⟩).memory Tryz.f3.params.toList Rows.snapPartsSpec.vars false argsW.toList 8 = some ([.lit (.int .i64 0), .lit (.string []), .lit (.string [])], [], places) :=
  ⟨[], by kernel_rfl⟩

theorem lifted (os : Os) (started : os.Started) (H : Type) (enc : TypeId × Value → H) (F : Stop.Interp) :
    ReturnsInHanded {} Tryz.checked os 3 .any ((OpenSpec.ofChange Rows.snapPartsSpec).preRow enc Tryz.prog Tryz.f3 Rows.snapPartsRow.domain false Rows.snapPartsRow.laid) (((OpenSpec.ofChange Rows.snapPartsSpec).at F).post enc Tryz.prog Tryz.f3 false true false false) := by
  obtain ⟨places, hx⟩ := reads os enc
  refine returnsInHanded_of_row (C := Tryz.checked) (s := OpenSpec.ofChange Rows.snapPartsSpec) own started (by kernel_rfl) Tryz.func3
    (witness_row_at (enc := enc) (C := Tryz.checked) false (laidWorld os) argsW rfl (by kernel_rfl) (by kernel_rfl) (by kernel_rfl)
      (OpenSpec.preRow_of_cond 8 hx (by kernel_rfl) (fun k hk => by cases hk) (by kernel_rfl) (laid_met os))) ?_
  intro W base args ds gs before hval hW _ _ _ hL hsh _
  exact contract H enc W base args ds gs before hval hW hL hsh

theorem said : Rows.SnapPartsSaid :=
  OpenClaim.holds_of_cond 3 Tryz.f3 rfl rfl rfl rfl rfl rfl rfl ⟨rfl, rfl, rfl, rfl, rfl⟩ rfl rfl rfl rfl rfl namedF Tryz.func3 closedF instF wrapF
    (fun os started H enc _ F => by rw [OpenClaim.pre_eq_preRow]; exact lifted os started H enc F)

/-- No parameter wants a stand-in; the program's own looks are off: what the card asks. -/
theorem plainArgs (f : FuncId) (fn : Func) (hf : Tryz.pinned.checked.prog.funcNamed "coxswain/coxswainlaw22.SnapParts" = some f) (hfn : Tryz.pinned.checked.prog.funcs[f]? = some fn) :
    false = Tryz.pinned.checked.prog.looks [] ∧ ∀ (j : Nat) t, fn.params[j]? = some t → Tryz.pinned.checked.prog.wantsStandIn t = false := by
  obtain rfl : f = 3 := Option.some.inj ((show Tryz.prog.funcNamed "coxswain/coxswainlaw22.SnapParts" = some 3 by kernel_rfl).symm.trans hf) |>.symm
  obtain rfl : fn = Tryz.f3 := (Option.some.inj (Tryz.func3.symm.trans hfn)).symm
  refine ⟨by kernel_rfl, fun j t ht => ?_⟩
  rw [Tryz.params3] at ht
  have hm := Array.mem_of_getElem? ht
  have : t = 3 ∨ t = 9 := by
    simp at hm
    omega
  rcases this with rfl | rfl
  · exact (show Tryz.prog.wantsStandIn 3 = false by kernel_rfl)
  · exact (show Tryz.prog.wantsStandIn 9 = false by kernel_rfl)

/-- The card. -/
theorem card : Rows.SnapPartsCardSaid :=
  Claim7.holds_tied_plain_at .later [] _ _ _ _ said (fun _ h => by cases h) (by kernel_rfl) (fun _ h => by cases h) snapParts_row_tie rfl ⟨rfl, rfl⟩ (by kernel_rfl) rfl plainArgs (by kernel_rfl)

#print axioms card

end Go.Proofs.YtglglgkaadfhpaaGreatDoor
