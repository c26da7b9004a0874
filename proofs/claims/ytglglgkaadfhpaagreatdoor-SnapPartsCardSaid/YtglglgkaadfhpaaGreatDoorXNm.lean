/-
  CxNm: SnapParts is true, whatever its input.
-/
import Derived.Test.YtglglgkaadfhpaaGreatDoorXNk
import Derived.Test.YtglglgkaadfhpaaGreatDoorXWa
import Derived.Test.YtglglgkaadfhpaaGreatDoorXWb
import Derived.Test.YtglglgkaadfhpaaGreatDoorXWc
import Derived.Test.YtglglgkaadfhpaaGreatDoorXWe
set_option linter.all false
namespace Go.Cx
open Go.Proofs
set_option maxRecDepth 100000

theorem flatD {nm : Nat → Option Value} {v : Value} (h : flat 8 v = true) : Den nm v v := .inr ⟨h, rfl⟩

theorem parts_eq {nm : Nat → Option Value} {ι : Emb} (hn : ∀ b v, nm b = some v → ι b = .val v) {a b c a' b' c' : Value} (h1 : Den nm a a') (h2 : Den nm b b') (h3 : Den nm c c') {l : List Value} (h : LRel (VRel ι) [partsV a b c] l) : l = [partsV a' b' c'] := by
  cases h with
  | cons h t => cases t with
    | nil =>
      unfold partsV at h
      cases h with
      | @agg _ xs' hx hc =>
        have := LRel.of_array hx hc
        have e := (DenL.cons h1 (.cons h2 (.cons h3 (.cons (flatD rfl) (.cons (flatD rfl) (.cons (flatD rfl) (.cons (flatD rfl) (.cons (flatD rfl) .nil)))))))).eq hn this
        have : xs' = #[a', b', c', .slice none 0 0, .slice none 0 0, .slice none 0 0, .slice none 0 0, .slice none 0 0] := by
          apply Array.toList_inj.1; simpa using e
        rw [this]; rfl

theorem calls_ok (z : Ins) {l : List Fact} {mV ml mk hV hl hk : Value} (d1 : Den (nmM z) mV (.string (cutS z.m0))) (d2 : Den (nmM z) ml (I (cutS z.m0).size)) (d3 : Den (nmM z) mk (I (1 + cnt (cutS z.m0).size)))
    (d5 : Den (nmM z) hV (.string (cutS z.h0))) (d6 : Den (nmM z) hl (I (cutS z.h0).size)) (d7 : Den (nmM z) hk (I (1 + cnt (cutS z.h0).size))) :
    ∀ x ∈ calls0 mV ml mk hV hl hk, @Good Tryz.prog (mkTab Tryz.prog (nmM z) l noParts) x := by
  letI T : Tab Tryz.prog := mkTab Tryz.prog (nmM z) l noParts
  have n12 : Den (nmM z) (N 12) (I (clk z.a)) := .inl ⟨12, rfl, rfl⟩
  have n20 : Den (nmM z) (N 20) (.string (textS (clk z.a) (cutS z.m0) (cutS z.h0))) := .inl ⟨20, rfl, rfl⟩
  have n21 : Den (nmM z) (N 21) (I (1 + cnt (clk z.a))) := .inl ⟨21, rfl, rfl⟩
  have n22 : Den (nmM z) (N 22) (.string (mkS (L1 (cutS z.m0) (cutS z.h0)))) := .inl ⟨22, rfl, rfl⟩
  have n34 : Den (nmM z) (N 34) (.string (mkS (L3 (cutS z.h0)))) := .inl ⟨34, rfl, rfl⟩
  have n6 : Den (nmM z) (N 6) (.string z.m0) := .inl ⟨6, rfl, rfl⟩
  have n7 : Den (nmM z) (N 7) (.string z.h0) := .inl ⟨7, rfl, rfl⟩
  have hm := cutS_size z.m0
  have hh := cutS_size z.h0
  have hx := clk_le z.a
  have lens : (L4 (cutS z.h0)).length ≤ 100000 ∧ (L2 (cutS z.m0) (cutS z.h0)).length ≤ 100000 ∧ (L1 (cutS z.m0) (cutS z.h0)).length ≤ 100000 := by
    generalize cutS z.m0 = m at *
    generalize cutS z.h0 = h at *
    have hml : m.data.toList.length = m.size := by simp
    have hhl : h.data.toList.length = h.size := by simp
    have c1 := cnt_le m.size
    have c2 := cnt_le h.size
    have l4 : (L4 h).length = h.size + 5 := by unfold L4; rw [List.length_append, hhl]; rfl
    have l3 : (L3 h).length = 1 + cnt h.size + (L4 h).length := by unfold L3; rw [List.length_append, numB_len]
    have l2 : (L2 m h).length = m.size + (L3 h).length := by unfold L2; rw [List.length_append, hml]
    have l1 : (L1 m h).length = 1 + cnt m.size + (L2 m h).length := by unfold L1; rw [List.length_append, numB_len]
    omega
  have three : ∀ {a b : Value} {p q : Nat} (ι : Emb), (∀ b v, nmM z b = some v → ι b = .val v) → Den (nmM z) a (I p) → Den (nmM z) b (I q) → VRel ι (.tuple #[a, b, i64 0]) (.tuple #[I p, I q, .int .i64 0]) := by
    intro a b p q ι hn h1 h2
    exact denl_tuple hn (vs := [_, _, _]) (us := [_, _, _]) (.cons h1 (.cons h2 (.cons (flatD rfl) .nil))) rfl
  intro x hx'
  unfold calls0 at hx'
  simp only [List.mem_cons, List.not_mem_nil, or_false] at hx'
  rcases hx' with rfl | rfl | rfl | rfl | rfl | rfl | rfl | rfl | rfl | rfl | rfl
  · exact good4 _
  · exact good34 _
  · exact (cut_yields z.m0).good (us := [_, _]) (.cons n6 (.cons (flatD rfl) .nil)) fun ι hn => d1.rel hn rfl
  · exact (cut_yields z.h0).good (us := [_, _]) (.cons n7 (.cons (flatD rfl) .nil)) fun ι hn => d5.rel hn rfl
  · exact (bytes_yields (clk z.a) (cutS z.m0) (cutS z.h0) hx hm hh).good_of (us := [_]) (fun ι hn l hl' => parts_eq hn n12 d1 d5 hl') fun ι hn => n20.rel hn rfl
  · exact (num_yields (clk z.a) (by omega) (L1 (cutS z.m0) (cutS z.h0)) lens.2.2).good (us := [_]) (.cons n20 .nil) fun ι hn => three ι hn n12 n21
  · exact (num_yields (cutS z.m0).size (by omega) (L2 (cutS z.m0) (cutS z.h0)) lens.2.1).good (us := [_]) (.cons n22 .nil) fun ι hn => three ι hn d2 d3
  · exact (num_yields (cutS z.h0).size (by omega) (L4 (cutS z.h0)) lens.1).good (us := [_]) (.cons n34 .nil) fun ι hn => three ι hn d6 d7
  · exact (head_yields (clk z.a) (by omega) (L1 (cutS z.m0) (cutS z.h0)) lens.2.2).good (us := [_]) (.cons n20 .nil) fun ι hn => three ι hn n12 n21
  · exact (head_yields (cutS z.m0).size (by omega) (L2 (cutS z.m0) (cutS z.h0)) lens.2.1).good (us := [_]) (.cons n22 .nil) fun ι hn => three ι hn d2 d3
  · exact (head_yields (cutS z.h0).size (by omega) (L4 (cutS z.h0)) lens.1).good (us := [_]) (.cons n34 .nil) fun ι hn => three ι hn d6 d7

theorem mark_ok (z : Ins) (h : z.q.size ≠ 0) : ∀ x ∈ markFacts, FactOk Tryz.prog (nmM z) x := by
  have hne : (z.q.toList == (⟨#[]⟩ : ByteArray).toList) = false := by
    rw [ByteArray.toList_eq, ByteArray.toList_eq]
    cases hd : z.q.data.toList with
    | nil =>
      exfalso
      apply h
      have : z.q.data.toList.length = 0 := by rw [hd]; rfl
      simpa using this
    | cons a l => rfl
  intro x hx
  unfold markFacts at hx
  simp only [List.mem_cons, List.not_mem_nil, or_false] at hx
  rcases hx with rfl | rfl
  · exact fact_ne (.inl ⟨60, rfl, nmM_60 z⟩) (flatD rfl) (by rw [hne]; rfl)
  · exact fact_eq (.inl ⟨60, rfl, nmM_60 z⟩) (flatD rfl) hne

theorem other_ok (z : Ins) {k : Value} {s : ByteArray} (hk : Den (nmM z) k (.string s)) (h : s ≠ rootS) : ∀ x ∈ otherFacts k, FactOk Tryz.prog (nmM z) x := by
  intro x hx
  unfold otherFacts at hx
  simp only [List.mem_cons, List.not_mem_nil, or_false] at hx
  subst hx
  refine fact_eq (t := rootS) hk (flatD rfl) ?_
  rw [ByteArray.toList_eq, ByteArray.toList_eq]
  cases hb : (s.data.toList == rootS.data.toList) with
  | false => rfl
  | true => exact absurd (ba_ext (by simpa using hb)) h

theorem err_ok (z : Ins) (h : z.e = 1 ∨ z.e = 7) : ∀ x ∈ errFacts, FactOk Tryz.prog (nmM z) x := by
  intro x hx
  unfold errFacts at hx
  simp only [List.mem_cons, List.not_mem_nil, or_false] at hx
  rcases hx with rfl | rfl
  · refine fact_ii (a := z.e) (b := 0) (k := .i64) (.inl ⟨50, rfl, rfl⟩) (flatD rfl) (flatD rfl) ⟨by decide, by decide⟩ ?_ rfl
    rcases h with h | h <;> rw [h] <;> rfl
  · refine fact_ii (a := z.e) (b := 0) (k := .i64) (.inl ⟨50, rfl, rfl⟩) (flatD rfl) (flatD rfl) ⟨by decide, by decide⟩ ?_ rfl
    rcases h with h | h <;> rw [h] <;> rfl

theorem mem3 {α : Type} {p : α → Prop} {a b : List α} (h1 : ∀ x ∈ a, p x) (h2 : ∀ x ∈ b, p x) : ∀ x ∈ a ++ b, p x := fun x hx => (List.mem_append.1 hx).elim (h1 x) (h2 x)

/-- A table and calls under which the law runs to true. -/
def LawWay (z : Ins) : Prop := ∃ (l : List Fact) (c : List Known), (∀ x ∈ l, FactOk Tryz.prog (nmM z) x) ∧ (∀ x ∈ c, @Good Tryz.prog (mkTab Tryz.prog (nmM z) l noParts) x) ∧ runLaw (nmM z) l c = true

theorem nilD (z : Ins) (v : Value) (u : Value) (hf : flat 8 v = true) (h : u = v) : Den (nmM z) v u := .inr ⟨hf, h⟩

theorem way (a : Int) (m0 h0 : ByteArray) : ∃ z : Ins, z.a = a ∧ z.m0 = m0 ∧ z.h0 = h0 ∧ LawWay z := by
  have hm160 := cutS_size m0
  have hh160 := cutS_size h0
  have rs : rootS.size = 32 := by decide
  have rc : 1 + cnt rootS.size = 2 := by rw [rs]; rfl
  -- what is alike
  have mEmpty : ∀ z : Ins, cutS z.m0 = ⟨#[]⟩ → Den (nmM z) nilS (.string (cutS z.m0)) ∧ Den (nmM z) (i64 0) (I (cutS z.m0).size) ∧ Den (nmM z) (i64 1) (I (1 + cnt (cutS z.m0).size)) ∧ Den (nmM z) (i64 1) (I (1 + cnt (cutS z.m0).size + (cutS z.m0).size)) ∧
      Den (nmM z) (N 34) (.string (mkS (L2 (cutS z.m0) (cutS z.h0)))) ∧ Den (nmM z) (N 37) (I (L2 (cutS z.m0) (cutS z.h0)).length) := by
    intro z hz
    have hL : L2 (cutS z.m0) (cutS z.h0) = L3 (cutS z.h0) := by rw [hz]; rfl
    refine ⟨nilD z _ _ rfl (by rw [hz]; rfl), nilD z _ _ rfl (by rw [hz]; rfl), nilD z _ _ rfl (by rw [hz]; rfl), nilD z _ _ rfl (by rw [hz]; rfl), ?_, ?_⟩
    · rw [hL]; exact .inl ⟨34, rfl, rfl⟩
    · rw [hL]; exact .inl ⟨37, rfl, rfl⟩
  have mRoot : ∀ z : Ins, cutS z.m0 = rootS → Den (nmM z) idS (.string (cutS z.m0)) ∧ Den (nmM z) (i64 32) (I (cutS z.m0).size) ∧ Den (nmM z) (i64 2) (I (1 + cnt (cutS z.m0).size)) ∧ Den (nmM z) (i64 34) (I (1 + cnt (cutS z.m0).size + (cutS z.m0).size)) := by
    intro z hz
    exact ⟨nilD z _ _ rfl (by rw [hz]; rfl), nilD z _ _ rfl (by rw [hz]; rfl), nilD z _ _ rfl (by rw [hz]; rfl), nilD z _ _ rfl (by rw [hz]; rfl)⟩
  have hRoot : ∀ z : Ins, cutS z.h0 = rootS → Den (nmM z) idS (.string (cutS z.h0)) ∧ Den (nmM z) (i64 32) (I (cutS z.h0).size) ∧ Den (nmM z) (i64 2) (I (1 + cnt (cutS z.h0).size)) ∧ Den (nmM z) (i64 34) (I (1 + cnt (cutS z.h0).size + (cutS z.h0).size)) := by
    intro z hz
    exact ⟨nilD z _ _ rfl (by rw [hz]; rfl), nilD z _ _ rfl (by rw [hz]; rfl), nilD z _ _ rfl (by rw [hz]; rfl), nilD z _ _ rfl (by rw [hz]; rfl)⟩
  have n23 : ∀ z : Ins, Den (nmM z) (N 23) (.string (mkS (L2 (cutS z.m0) (cutS z.h0)))) ∧ Den (nmM z) (N 24) (I (L2 (cutS z.m0) (cutS z.h0)).length) := fun z => ⟨.inl ⟨23, rfl, rfl⟩, .inl ⟨24, rfl, rfl⟩⟩
  have mName : ∀ z : Ins, Den (nmM z) (N 31) (I (cutS z.m0).size) ∧ Den (nmM z) (N 32) (I (1 + cnt (cutS z.m0).size)) ∧ Den (nmM z) (N 26) (I (1 + cnt (cutS z.m0).size + (cutS z.m0).size)) := fun z => ⟨.inl ⟨31, rfl, rfl⟩, .inl ⟨32, rfl, rfl⟩, .inl ⟨26, rfl, rfl⟩⟩
  have hName : ∀ z : Ins, Den (nmM z) (N 41) (I (cutS z.h0).size) ∧ Den (nmM z) (N 42) (I (1 + cnt (cutS z.h0).size)) ∧ Den (nmM z) (N 38) (I (1 + cnt (cutS z.h0).size + (cutS z.h0).size)) := fun z => ⟨.inl ⟨41, rfl, rfl⟩, .inl ⟨42, rfl, rfl⟩, .inl ⟨38, rfl, rfl⟩⟩
  have q60 : ∀ z : Ins, Den (nmM z) (N 60) (.string z.q) := fun z => .inl ⟨60, rfl, nmM_60 z⟩
  by_cases hm : (cutS m0).size = 0
  · have hm' : cutS m0 = ⟨#[]⟩ := empty_of_size hm
    by_cases hr : cutS h0 = rootS
    · let z : Ins := ⟨a, m0, h0, ⟨#[]⟩, 1⟩
      obtain ⟨a1, a2, a3, a4, a5, a6⟩ := mEmpty z hm'
      obtain ⟨b1, b2, b3, b4⟩ := hRoot z hr
      exact ⟨z, rfl, rfl, rfl, fA1, cA1, main_ok z a1 a2 a3 a4 b1 b2 b3 b4 a5 a6, mem3 (calls_ok z a1 a2 a3 b1 b2 b3) (small_ok _), wayA1 _⟩
    · obtain ⟨e, he, hk⟩ := key_known hh160 hr
      let z : Ins := ⟨a, m0, h0, cutS h0, e⟩
      obtain ⟨a1, a2, a3, a4, a5, a6⟩ := mEmpty z hm'
      obtain ⟨b2, b3, b4⟩ := hName z
      exact ⟨z, rfl, rfl, rfl, fB1, cB1, mem3 (main_ok z a1 a2 a3 a4 (q60 z) b2 b3 b4 a5 a6) (mem3 (other_ok z (q60 z) hr) (err_ok z he)),
        mem3 (calls_ok z a1 a2 a3 (q60 z) b2 b3) (fun x hx => by simp only [List.mem_cons, List.not_mem_nil, or_false] at hx; subst hx; exact hk _ (nmM_keys z) rfl), wayB1 _⟩
  · by_cases hmr : cutS m0 = rootS
    · by_cases hr : cutS h0 = rootS
      · let z : Ins := ⟨a, m0, h0, ⟨#[]⟩, 1⟩
        obtain ⟨a1, a2, a3, a4⟩ := mRoot z hmr
        obtain ⟨b1, b2, b3, b4⟩ := hRoot z hr
        exact ⟨z, rfl, rfl, rfl, fA2, cA2, main_ok z a1 a2 a3 a4 b1 b2 b3 b4 (n23 z).1 (n23 z).2, mem3 (calls_ok z a1 a2 a3 b1 b2 b3) (small_ok _), wayA2 _⟩
      · obtain ⟨e, he, hk⟩ := key_known hh160 hr
        let z : Ins := ⟨a, m0, h0, cutS h0, e⟩
        obtain ⟨a1, a2, a3, a4⟩ := mRoot z hmr
        obtain ⟨b2, b3, b4⟩ := hName z
        exact ⟨z, rfl, rfl, rfl, fB2, cB2, mem3 (main_ok z a1 a2 a3 a4 (q60 z) b2 b3 b4 (n23 z).1 (n23 z).2) (mem3 (other_ok z (q60 z) hr) (err_ok z he)),
          mem3 (calls_ok z a1 a2 a3 (q60 z) b2 b3) (fun x hx => by simp only [List.mem_cons, List.not_mem_nil, or_false] at hx; subst hx; exact hk _ (nmM_keys z) rfl), wayB2 _⟩
    · obtain ⟨e, he, hk⟩ := key_known hm160 hmr
      let z : Ins := ⟨a, m0, h0, cutS m0, e⟩
      obtain ⟨a2, a3, a4⟩ := mName z
      have tip : ∀ l : List Fact, ∀ x ∈ [tipK], @Good Tryz.prog (mkTab Tryz.prog (nmM z) l noParts) x := fun l x hx => by
        simp only [List.mem_cons, List.not_mem_nil, or_false] at hx
        subst hx
        exact hk _ (nmM_keys z) rfl
      by_cases hr : cutS h0 = rootS
      · obtain ⟨b1, b2, b3, b4⟩ := hRoot z hr
        exact ⟨z, rfl, rfl, rfl, fA3, cA3, mem3 (main_ok z (q60 z) a2 a3 a4 b1 b2 b3 b4 (n23 z).1 (n23 z).2) (mem3 (mark_ok z hm) (mem3 (other_ok z (q60 z) hmr) (err_ok z he))), mem3 (calls_ok z (q60 z) a2 a3 b1 b2 b3) (tip _), wayA3 _⟩
      · obtain ⟨b2, b3, b4⟩ := hName z
        have b1 : Den (nmM z) (N 40) (.string (cutS z.h0)) := .inl ⟨40, rfl, rfl⟩
        exact ⟨z, rfl, rfl, rfl, fC, cC, mem3 (main_ok z (q60 z) a2 a3 a4 b1 b2 b3 b4 (n23 z).1 (n23 z).2) (mem3 (mark_ok z hm) (mem3 (other_ok z b1 hr) (err_ok z he))), mem3 (calls_ok z (q60 z) a2 a3 b1 b2 b3) (tip _), wayC _⟩

end Go.Cx

/-
  CxNn: SnapParts in a world that holds the two tables.
-/

namespace Go.Cx
open Go.Proofs
set_option maxRecDepth 100000

/-- Nothing that was there is another. -/
def Kept (W W' : World) : Prop := W'.os = W.os ∧ W'.output = W.output ∧ W.heap.size ≤ W'.heap.size ∧ ∀ i : Nat, i < W.heap.size → W'.heap[i]? = W.heap[i]?

def ι0 (z : Ins) : Emb := fun b => if b = 0 then .live ⟨0, none⟩ else if b = 1 then .live ⟨1, none⟩ else if b < 4 then .dead else match nmM z b with
  | some v => .val v
  | none => .unborn

theorem nmM_range (z : Ins) {b : Nat} {v : Value} (h : nmM z b = some v) : 5 ≤ b ∧ b < 1000 := by
  unfold nmM at h
  split at h
  · rename_i u hu
    have hm := nmOf_mem hu
    have hr : ((nmL z).all fun p => Nat.ble 5 p.1 && Nat.blt p.1 1000) = true := rfl
    have := List.all_eq_true.1 hr _ hm
    simp only [Bool.and_eq_true, Nat.ble_eq] at this
    exact ⟨this.1, blt_yes this.2⟩
  · have := nmQ_range z.q b v h
    omega

theorem row_cells {P : Program} {ι : Emb} {s : Slot} {l : List Value} {e : TypeId} (hf : l.all (flat 8) = true) (hs : s.grown = none) : ORel P ι s (row l e false) (.cells l.toArray e (0, 0)) := by
  unfold row
  refine .cells (.inl ⟨hs, rfl, by simp⟩) fun i hi v hv => ?_
  rw [Tr.get_fill] at hv
  simp only [Nat.zero_le, if_true, Nat.sub_zero] at hv
  cases hq : l[i]? with
  | none => rw [hq] at hv; simp [Tr.get_nil] at hv
  | some u =>
    rw [hq] at hv
    have : u = v := by simpa using hv
    subst this
    exact ⟨u, by simpa using hq, flat_refl ι 8 u (List.all_eq_true.1 hf u (List.mem_of_getElem? hq))⟩

theorem cells_row {P : Program} {ι : Emb} {s : Slot} {l : List Value} {e : TypeId} {o : Obj} (hf : l.all (flat 8) = true) (hs : s.grown = none) (h : ORel P ι s (row l e false) o) : o = .cells l.toArray e (0, 0) := by
  unfold row at h
  cases h with
  | @cells _ _ _ _ _ _ c' hg hc =>
    have hsz : c'.size = l.length := by
      rcases hg with ⟨_, _, h⟩ | ⟨_, _, _, h, _⟩
      · exact h
      · rw [hs] at h; cases h
    congr 1
    apply Array.ext (by simpa using hsz)
    intro i h1 h2
    have hi : i < l.length := by omega
    obtain ⟨v', h3, h4⟩ := hc i hi l[i] (by
      rw [Tr.get_fill]
      simp [hi])
    have := flat_eq 8 (List.all_eq_true.1 hf _ (List.getElem_mem hi)) h4
    subst this
    rw [Array.getElem?_eq_getElem h1] at h3
    simpa using h3

theorem start_flat : startL.all (flat 8) = true := by kernel_rfl
theorem key_flat : keyL.all (flat 8) = true := by kernel_rfl

theorem two_get {b : Nat} {o : Ob} (h : (hpOf 1000 (rowsOf two)).get b = some o) : (b = 0 ∧ o = row startL 194 false) ∨ (b = 1 ∧ o = row keyL 269 false) := by
  have := hpOf_get 1000 h
  unfold rowsOf two at this
  simp only [List.map_cons, List.map_nil, List.mem_cons, Prod.mk.injEq, List.not_mem_nil, or_false] at this
  exact this

theorem rel0 (z : Ins) {l : List Fact} {W : World} (h0 : W.heap[0]? = some (.cells startL.toArray 194 (0, 0))) (h1 : W.heap[1]? = some (.cells keyL.toArray 269 (0, 0))) : @Rel Tryz.prog (mkTab Tryz.prog (nmM z) l noParts) (ι0 z) (hpOf 1000 (rowsOf two)) W := by
  have b0 := (Array.getElem?_eq_some_iff.1 h0).1
  have b1 := (Array.getElem?_eq_some_iff.1 h1).1
  have hl : ∀ b s, ι0 z b = .live s → (b = 0 ∧ s = ⟨0, none⟩) ∨ (b = 1 ∧ s = ⟨1, none⟩) := by
    intro b s h
    unfold ι0 at h
    split at h
    · rename_i hb; cases h; exact .inl ⟨hb, rfl⟩
    · split at h
      · rename_i hb; cases h; exact .inr ⟨hb, rfl⟩
      · split at h
        · cases h
        · split at h <;> cases h
  have hnx := hpOf_next 1000 (rowsOf two)
  refine @Rel.mk Tryz.prog (mkTab Tryz.prog (nmM z) l noParts) _ _ _ ?_ ?_ ?_ ?_ ?_ ?_ ?_ ?_
  · intro b o h
    rcases two_get h with ⟨rfl, rfl⟩ | ⟨rfl, rfl⟩
    · exact ⟨⟨0, none⟩, rfl, _, h0, row_cells start_flat rfl⟩
    · exact ⟨⟨1, none⟩, rfl, _, h1, row_cells key_flat rfl⟩
  · intro b c s t hs ht hx
    rcases hl b s hs with ⟨rfl, rfl⟩ | ⟨rfl, rfl⟩ <;> rcases hl c t ht with ⟨rfl, rfl⟩ | ⟨rfl, rfl⟩ <;> first | rfl | cases hx
  · intro b s hs
    rcases hl b s hs with ⟨rfl, rfl⟩ | ⟨rfl, rfl⟩
    · exact b0
    · exact b1
  · intro b s _ hs
    rcases hl b s hs with ⟨rfl, rfl⟩ | ⟨rfl, rfl⟩ <;> rfl
  · intro b hb
    rw [gsize] at hb
    unfold ι0
    split
    · trivial
    · split
      · trivial
      · first | trivial | (rw [if_pos hb]; trivial)
  · rw [hnx]; exact base0
  · intro b o h
    rw [hnx]
    rcases two_get h with ⟨rfl, _⟩ | ⟨rfl, _⟩ <;> decide
  · intro b v hv
    have := nmM_range z hv
    unfold ι0
    rw [if_neg (by omega), if_neg (by omega), if_neg (by omega)]
    have hv' : nmM z b = some v := hv
    rw [hv']

theorem law_calls (W : World) (a : Int) (m h : ByteArray) (h0 : W.heap[0]? = some (.cells startL.toArray 194 (0, 0))) (h1 : W.heap[1]? = some (.cells keyL.toArray 269 (0, 0))) :
    Calls Tryz.prog 3 #[.int .i64 a, .string m, .string h] W fun e W' => e = .returned (.bool true) ∧ Kept W W' := by
  obtain ⟨z, rfl, rfl, rfl, l, c, hl, hc, hrun⟩ := way a m h
  have hok := factTab_ok hl
  have henv := @env_told (mkTab Tryz.prog (nmM z) l noParts) hok c hc
  obtain ⟨σ', g1, g2⟩ := seen_ok (isSome_ok hrun)
  have hrel := rel0 z (l := l) h0 h1
  have hnx := hpOf_next 1000 (rowsOf two)
  have hfree : Free (ι0 z) (hpOf 1000 (rowsOf two)).next := by
    intro b hb
    rw [hnx] at hb
    unfold ι0
    rw [if_neg (by omega), if_neg (by omega), if_neg (by omega)]
    cases hq : nmM z b with
    | none => rfl
    | some v => have := nmM_range z hq; omega
  have hargs : LRel (VRel (ι0 z)) [N 5, N 6, N 7] (#[.int .i64 z.a, .string z.m0, .string z.h0] : Array Value).toList := by
    have hn := @Rel.names Tryz.prog (mkTab Tryz.prog (nmM z) l noParts) _ _ _ hrel
    exact .cons (.sym 5 ⟨hn 5 _ rfl, rfl⟩) (.cons (.sym 6 ⟨hn 6 _ rfl, rfl⟩) (.cons (.sym 7 ⟨hn 7 _ rfl, rfl⟩) .nil))
  have hg := @Sound.call Tryz.prog (mkTab Tryz.prog (nmM z) l noParts) _ (@go_sound Tryz.prog (mkTab Tryz.prog (nmM z) l noParts) hok (told c) henv 100000) Fence.wide Opn.wide _ _ _ _ _ _ _ _ g1 hrel hfree hargs
  have hent := @run_enter Tryz.prog (mkTab Tryz.prog (nmM z) l noParts) hok 3 Tryz.f3 Tryz.func3 (by kernel_rfl) (by decide +kernel) #[.int .i64 z.a, .string z.m0, .string z.h0] W
  rw [hent] at hg
  refine (callsIn_wide.1 hg).mono ?_
  rintro e W' ⟨v, rfl, ι', k1, k2, k3⟩
  refine ⟨by rw [k3.bool_eq], k2.os, k2.output, k2.size, fun i hi => ?_⟩
  have klive := @Rel.live Tryz.prog (mkTab Tryz.prog (nmM z) l noParts) _ _ _ k1
  have tab : ∀ {b : Nat} {l : List Value} {e : TypeId}, (b, row l e false) ∈ rowsOf two → b < 1000 → ι0 z b = .live ⟨b, none⟩ → l.all (flat 8) = true → W.heap[b]? = some (.cells l.toArray e (0, 0)) → W'.heap[b]? = W.heap[b]? := by
    intro b l e hm hb hι hf hw
    obtain ⟨s, q1, o', q2, q3⟩ := klive b _ (g2 _ hm)
    have hs : s = ⟨b, none⟩ := by
      rcases k2.old b (.inl (by rw [hnx]; exact hb)) with q | ⟨q, _⟩
      · rw [q, hι] at q1; cases q1; rfl
      · rw [q] at q1; cases q1
    subst hs
    rw [q2, hw, cells_row hf rfl q3]
  by_cases i0 : i = 0
  · subst i0
    exact tab (by unfold rowsOf two; simp) (by decide) rfl start_flat h0
  · by_cases i1 : i = 1
    · subst i1
      exact tab (by unfold rowsOf two; simp) (by decide) rfl key_flat h1
    · refine k2.frame i hi fun b s ⟨o, hb⟩ hs hx => ?_
      rcases two_get hb with ⟨rfl, _⟩ | ⟨rfl, _⟩
      · have : ι0 z 0 = .live ⟨0, none⟩ := rfl
        rw [this] at hs; cases hs
        exact i0 hx.symm
      · have : ι0 z 1 = .live ⟨1, none⟩ := rfl
        rw [this] at hs; cases hs
        exact i1 hx.symm

end Go.Cx
