/-
  CxN: operations, fifth part: maps that are written; ways through maps and strings.
-/
import Derived.Test.YtglglgkaadfhpaaGreatDoorXM
set_option linter.all false
namespace Go.Cx
variable {P : Program} [Tab P] {ι : Emb} {σ σ' : Hp} {w : World}

theorem MRel.modify {es es' : Array MapEntry} (h : MRel ι es es') (j : Nat) {k v v' : Value} (hk : VRel ι k k) (hv : VRel ι v v') :
    MRel ι (es.modify j fun e => { e with key := k, val := v }) (es'.modify j fun e => { e with key := k, val := v' }) := by
  refine ⟨by simp [h.1], fun i x y hx hy => ?_⟩
  rw [Array.getElem?_modify] at hx hy
  by_cases hj : j = i
  · simp only [hj, if_true, Option.map_eq_some_iff] at hx hy
    obtain ⟨x0, hx0, rfl⟩ := hx
    obtain ⟨y0, hy0, rfl⟩ := hy
    exact ⟨hk, hv, (h.2 i x0 y0 hx0 hy0).2.2⟩
  · simp only [hj, if_false] at hx hy
    exact h.2 i x y hx hy

theorem MRel.push {es es' : Array MapEntry} (h : MRel ι es es') {k v v' : Value} (hk : VRel ι k k) (hv : VRel ι v v') (b : Nat) :
    MRel ι (es.push { key := k, val := v, born := b }) (es'.push { key := k, val := v', born := b }) := by
  refine ⟨by simp [h.1], fun i x y hx hy => ?_⟩
  rw [Array.getElem?_push] at hx hy
  rw [← h.1] at hy
  by_cases hi : i = es.size
  · simp only [hi, if_true, Option.some.injEq] at hx hy
    subst hx hy
    exact ⟨hk, hv, rfl⟩
  · simp only [hi, if_false] at hx hy
    exact h.2 i x y hx hy

theorem MRel.erase {es es' : Array MapEntry} (h : MRel ι es es') (j : Nat) : MRel ι (es.eraseIdxIfInBounds j) (es'.eraseIdxIfInBounds j) := by
  have conv : ∀ (xs : Array MapEntry) (i : Nat), (xs.eraseIdxIfInBounds j)[i]? = (xs.toList.eraseIdx j)[i]? := by
    intro xs i
    unfold Array.eraseIdxIfInBounds
    split
    · rw [← Array.getElem?_toList, Array.toList_eraseIdx]
    · rename_i hj
      rw [List.eraseIdx_of_length_le (by simpa using Nat.le_of_not_lt hj)]; simp
  have hsz : ∀ xs : Array MapEntry, (xs.eraseIdxIfInBounds j).size = (xs.toList.eraseIdx j).length := by
    intro xs
    unfold Array.eraseIdxIfInBounds
    split
    · rw [← Array.length_toList, Array.toList_eraseIdx]
    · rename_i hj
      rw [List.eraseIdx_of_length_le (by simpa using Nat.le_of_not_lt hj)]; simp
  refine ⟨?_, fun i x y hx hy => ?_⟩
  · rw [hsz, hsz, List.length_eraseIdx, List.length_eraseIdx]; simp [h.1]
  · rw [conv, List.getElem?_eraseIdx] at hx hy
    split at hx
    · rename_i hlt
      rw [if_pos hlt] at hy
      exact h.2 i x y (by simpa using hx) (by simpa using hy)
    · rename_i hlt
      rw [if_neg hlt] at hy
      exact h.2 (i + 1) x y (by simpa using hx) (by simpa using hy)

theorem keyOk_run {e : Bool} {kt : TypeId} {k : Value} {u : Unit} (h : keyOk P e kt k = .ok u) (w : World) : (Instr.checkKey e 10000 kt k).run P w = .ok () w := prun_run (need_ok.1 h) w

theorem not_cells_map {es : Array MapEntry} {c : Nat} : ∀ a b d, Obj.map es c ≠ .cells a b d := by intro _ _ _ h; cases h

theorem findIdx_flat {kt : TypeId} {k : Value} {es : List MapEntry} {i : Option Nat} (h : findIdx P kt k es = .ok i) : flat 8 k = true := by
  unfold findIdx at h
  obtain ⟨h1, _⟩ := sure_ok.1 h
  simp only [Bool.and_eq_true] at h1
  exact h1.1

theorem mapUpdate_ok (hr : Rel P ι σ w) {t : TypeId} {m m' k k' v v' : Value} (hm : VRel ι m m') (hk : VRel ι k k') (hv : VRel ι v v') (h : mapUpdate P σ t m k v = .ok σ') :
    ∃ w', (Instr.mapUpdate t m' k' v').run P w = .ok () w' ∧ Rel P ι σ' w' ∧ Step ι σ w ι σ' w' ∧ σ'.next = σ.next := by
  unfold mapUpdate at h
  split at h
  · rename_i kt et r hu
    obtain ⟨x, h1, h⟩ := Res.bind_ok.1 h
    obtain ⟨_, h2, h⟩ := Res.bind_ok.1 h
    obtain ⟨i, h3, h⟩ := Res.bind_ok.1 h
    obtain ⟨r', rfl, hb⟩ := hm.map_inv
    obtain ⟨s, es', hs, rfl, hw, hmr, hg⟩ := hr.mapAt hb h1
    have hfl := findIdx_flat h3
    obtain ⟨rfl, hkeys, q, h5, h6, h7⟩ := findIdx_ok hmr hk h3
    have hget := run_getObj' (P := P) hw not_cells_map
    have hck := keyOk_run h2 w
    have hfk := prun_run h5 w
    subst h6
    cases q with
    | none =>
      simp only [Option.map_none] at h
      cases h
      obtain ⟨k1, k2⟩ := hr.put hg hs (ORel.map (P := P) (s := s) (clock := x.2 + 1) (hmr.push (flat_refl ι 8 _ hfl) hv x.2).1 (hmr.push (flat_refl ι 8 _ hfl) hv x.2).2)
      refine ⟨_, ?_, k1, k2, rfl⟩
      unfold Instr.mapUpdate
      simp only [Sem.run_bind, run_under hu, Result.andThen, hget, hck, hfk]
      exact run_setObj' hw not_cells_map
    | some jv =>
      obtain ⟨j, u⟩ := jv
      simp only [Option.map_some] at h
      obtain ⟨e, h8, h⟩ := Res.bind_ok.1 h
      obtain ⟨h9, h⟩ := sure_ok.1 h
      cases h
      obtain ⟨e', h10, h11⟩ := h7 j u rfl
      have hkey := hkeys j e e' (need_ok.1 h8) h10
      obtain ⟨k1, k2⟩ := hr.put hg hs (ORel.map (P := P) (s := s) (clock := x.2) (hmr.modify j (flat_refl ι 8 _ hfl) hv).1 (hmr.modify j (flat_refl ι 8 _ hfl) hv).2)
      refine ⟨_, ?_, k1, k2, rfl⟩
      have hks : (Instr.keyThatStays (((es'[j]?).map (·.key)).getD k') k').run P w = .ok k' w := by
        simp only [h10, Option.map_some, Option.getD_some, hkey, Instr.keyThatStays, h9, if_true, Sem.run_pure]
      unfold Instr.mapUpdate
      simp only [Sem.run_bind, run_under hu, Result.andThen, hget, hck, hfk, hks]
      exact run_setObj' hw not_cells_map
  · cases h

theorem delete_ok (hr : Rel P ι σ w) {ts : Array TypeId} {ty : TypeId} {m m' k k' v : Value} (hm : VRel ι m m') (hk : VRel ι k k') (h : delete P σ ts m k = .ok (v, σ')) :
    v = .tuple #[] ∧ ∃ w', (Builtin.delete_ ts ty #[m', k']).run P w = .ok (.tuple #[]) w' ∧ Rel P ι σ' w' ∧ Step ι σ w ι σ' w' ∧ σ'.next = σ.next := by
  unfold delete at h
  split at h
  · rename_i kt et r hu
    obtain ⟨t, ht, hu⟩ := Option.bind_eq_some_iff.1 hu
    obtain ⟨x, h1, h⟩ := Res.bind_ok.1 h
    obtain ⟨_, h2, h⟩ := Res.bind_ok.1 h
    obtain ⟨i, h3, h⟩ := Res.bind_ok.1 h
    obtain ⟨r', rfl, hb⟩ := hm.map_inv
    obtain ⟨s, es', hs, rfl, hw, hmr, hg⟩ := hr.mapAt hb h1
    obtain ⟨rfl, hkeys, q, h5, h6, h7⟩ := findIdx_ok hmr hk h3
    have hget := run_getObj' (P := P) hw not_cells_map
    have hck := keyOk_run h2 w
    have he : x.1.isEmpty = es'.isEmpty := by simp [Array.isEmpty, hmr.1]
    rw [he] at hck
    have hfk := prun_run h5 w
    subst h6
    cases h
    refine ⟨rfl, ?_⟩
    cases q with
    | none =>
      obtain ⟨k1, k2⟩ := hr.put hg hs (ORel.map (P := P) (s := s) (clock := x.2) hmr.1 hmr.2)
      refine ⟨_, ?_, k1, k2, rfl⟩
      have hso := run_setObj' (P := P) (o1 := .map es' x.2) hw not_cells_map
      unfold Builtin.delete_
      simp [ht, run_under hu, Result.andThen, hget, hck, hfk, hso]
    | some jv =>
      obtain ⟨j, u⟩ := jv
      obtain ⟨k1, k2⟩ := hr.put hg hs (ORel.map (P := P) (s := s) (clock := x.2) (hmr.erase j).1 (hmr.erase j).2)
      refine ⟨_, ?_, k1, k2, rfl⟩
      have hso := run_setObj' (P := P) (o1 := .map (es'.eraseIdxIfInBounds j) x.2) hw not_cells_map
      unfold Builtin.delete_
      simp [ht, run_under hu, Result.andThen, hget, hck, hfk, hso]
  · cases h

/-! ### A way through a map -/
inductive ML (ι : Emb) : List MapEntry → List MapEntry → Prop where
  | nil : ML ι [] []
  | cons {e e' l l'} (hk : VRel ι e.key e'.key) (hv : VRel ι e.val e'.val) (hb : e'.born = e.born) (t : ML ι l l') : ML ι (e :: l) (e' :: l')

theorem ml_of {l l' : List MapEntry} (hl : l.length = l'.length) (h : ∀ (i : Nat) x y, l[i]? = some x → l'[i]? = some y → VRel ι x.key y.key ∧ VRel ι x.val y.val ∧ y.born = x.born) : ML ι l l' := by
  induction l generalizing l' with
  | nil => cases l' with
    | nil => exact .nil
    | cons _ _ => simp at hl
  | cons e l ih => cases l' with
    | nil => simp at hl
    | cons e' l' =>
      obtain ⟨a, b, c⟩ := h 0 e e' rfl rfl
      exact .cons a b c (ih (by simpa using hl) fun i x y hx hy => h (i + 1) x y (by simpa using hx) (by simpa using hy))

theorem MRel.ml {es es' : Array MapEntry} (h : MRel ι es es') : ML ι es.toList es'.toList := ml_of (by simpa using h.1) fun i x y hx hy => h.2 i x y (by simpa using hx) (by simpa using hy)

theorem ML.filter {l l' : List MapEntry} (h : ML ι l l') (f : Nat → Bool) : ML ι (l.filter fun e => f e.born) (l'.filter fun e => f e.born) := by
  induction h with
  | nil => exact .nil
  | cons hk hv hb t ih =>
    simp only [List.filter_cons, hb]
    split
    · exact .cons hk hv hb ih
    · exact ih

theorem ML.all {l l' : List MapEntry} (h : ML ι l l') (f : Nat → Bool) : (l'.all fun e => f e.born) = (l.all fun e => f e.born) := by
  induction h with
  | nil => rfl
  | cons hk hv hb t ih => simp [hb, ih]

theorem ML.find {l l' : List MapEntry} (h : ML ι l l') (f : Nat → Bool) {e : MapEntry} (hf : l.find? (fun e => f e.born) = some e) : ∃ e', l'.find? (fun e => f e.born) = some e' ∧ VRel ι e.key e'.key ∧ VRel ι e.val e'.val := by
  induction h with
  | nil => simp at hf
  | @cons e0 e0' l l' hk hv hb t ih =>
    simp only [List.find?_cons, hb] at hf ⊢
    cases hc : f e0.born with
    | true => simp only [hc] at hf ⊢; cases hf; exact ⟨_, rfl, hk, hv⟩
    | false => simp only [hc] at hf ⊢; exact ih hf

theorem Rel.iter (hr : Rel P ι σ w) {a : Addr} {it' : Value} (hi : VRel ι (.pointer (some a)) it') {o : Ob} (hg : σ.get a.block = some o) :
    ∃ s o', ι a.block = .live s ∧ it' = .pointer (some ⟨s.x, a.off, a.spot⟩) ∧ w.heap[s.x]? = some o' ∧ ORel P ι s o o' := by
  obtain ⟨a', rfl, ha⟩ := hi.ptr_inv
  obtain ⟨s, o', h1, rfl, h2, h3⟩ := hr.block ha hg
  exact ⟨s, o', h1, rfl, h2, h3⟩

theorem next_ok (hr : Rel P ι σ w) {it it' v : Value} {isS : Bool} {ty : TypeId} (hi : VRel ι it it') (h : next σ it isS = .ok (v, σ')) :
    ∃ v' w', (Instr.next it' isS ty).run P w = .ok v' w' ∧ VRel ι v v' ∧ Rel P ι σ' w' ∧ Step ι σ w ι σ' w' ∧ σ'.next = σ.next := by
  unfold next at h
  split at h
  · rename_i r sp
    split at h
    · rename_i s pos hg
      obtain ⟨sl, o', hs, rfl, hw, hor⟩ := hr.iter hi hg
      cases hor
      have hget := run_getObj' (P := P) hw (by intro _ _ _ h; cases h)
      split at h
      · rename_i hlt
        have hlt : pos < s.size := by simpa using hlt
        cases h
        obtain ⟨k1, k2⟩ := hr.put hg hs (ORel.stringIter (P := P) (ι := ι) (s := sl) s (pos + (Utf8.decode s pos).2))
        refine ⟨_, _, ?_, flat_refl ι 8 _ rfl, k1, k2, rfl⟩
        have hso := run_setObj' (P := P) (o1 := .stringIter s (pos + (Utf8.decode s pos).2)) hw (by intro _ _ _ h; cases h)
        unfold Instr.next
        simp only [Sem.run_bind, hget, Result.andThen, hlt, if_true, hso, Sem.run_pure]
      · rename_i hlt
        have hlt : ¬ pos < s.size := by simpa using hlt
        cases h
        refine ⟨_, w, ?_, flat_refl ι 8 _ rfl, hr, Step.refl _ _ _, rfl⟩
        unfold Instr.next
        simp only [Sem.run_bind, hget, Result.andThen, hlt, if_false, Sem.run_pure]
    · rename_i a b c hg
      obtain ⟨sl, o', hs, rfl, hw, hor⟩ := hr.iter hi hg
      cases hor
      have hget := run_getObj' (P := P) hw (by intro _ _ _ h; cases h)
      cases h
      refine ⟨_, w, ?_, flat_refl ι 8 _ rfl, hr, Step.refl _ _ _, rfl⟩
      unfold Instr.next
      simp only [Sem.run_bind, hget, Result.andThen, Sem.run_pure]
    · rename_i m since seen last hg
      obtain ⟨x, h1, h⟩ := Res.bind_ok.1 h
      obtain ⟨h2, h⟩ := sure_ok.1 h
      obtain ⟨sl, o', hs, rfl, hw, hor⟩ := hr.iter hi hg
      cases hor with
      | mapIter _ _ _ hb =>
      rename_i m'
      obtain ⟨s2, es', hs2, rfl, hw2, hmr, hg2⟩ := hr.mapAt hb h1
      have hget := run_getObj' (P := P) hw (by intro _ _ _ h; cases h)
      have hget2 := run_getObj' (P := P) hw2 not_cells_map
      have hml := hmr.ml
      have hcond : (!seen.isEmpty && !es'.isEmpty && es'.all fun e => decide (e.born ≥ last)) = false := by
        have he : es'.isEmpty = x.1.isEmpty := by simp [Array.isEmpty, hmr.1]
        have ha : (es'.all fun e => decide (e.born ≥ last)) = (x.1.toList.all fun e => decide (e.born ≥ last)) := by
          rw [← Array.all_toList]; exact hml.all fun b => decide (b ≥ last)
        rw [he, ha]
        revert h2
        cases seen.isEmpty <;> cases x.1.isEmpty <;> simp
      have hleft : (es'.filter fun e => !seen.contains e.born).toList = es'.toList.filter fun e => !seen.toList.contains e.born := by
        rw [Array.toList_filter]; simp
      have hmf := hml.filter fun b => !seen.toList.contains b
      split at h
      · rename_i hnil
        cases h
        rw [hnil] at hmf
        have hl0 : es'.toList.filter (fun e => !seen.toList.contains e.born) = [] := by
          generalize es'.toList.filter (fun e => !seen.toList.contains e.born) = q at hmf
          cases hmf; rfl
        rw [hl0] at hleft
        have hl1 : (es'.filter fun e => !seen.contains e.born) = #[] := by simpa using hleft
        refine ⟨_, w, ?_, flat_refl ι 8 _ rfl, hr, Step.refl _ _ _, rfl⟩
        unfold Instr.next
        simp only [Sem.run_bind, hget, Result.andThen, hget2, hcond, hl1]
        simp [choose, Sem.run, Question.forced]
      · rename_i e hone
        obtain ⟨h3, h⟩ := sure_ok.1 h
        cases h
        rw [hone] at hmf
        obtain ⟨e', hl0, hk, hv, hbn⟩ : ∃ e', es'.toList.filter (fun e => !seen.toList.contains e.born) = [e'] ∧ VRel ι e.key e'.key ∧ VRel ι e.val e'.val ∧ e'.born = e.born := by
          generalize es'.toList.filter (fun e => !seen.toList.contains e.born) = q at hmf
          cases hmf with
          | cons hk hv hb t => cases t; exact ⟨_, rfl, hk, hv, hb⟩
        rw [hl0] at hleft
        have hl1 : (es'.filter fun e => !seen.contains e.born) = #[e'] := by
          apply Array.toList_inj.1; simpa using hleft
        have h3 : e'.born < since := by rw [hbn]; simpa using h3
        have h3' : ¬ e'.born ≥ since := by omega
        obtain ⟨k1, k2⟩ := hr.put hg hs (ORel.mapIter (P := P) (s := sl) since (seen.push e.born) x.2 hb)
        refine ⟨.tuple #[.bool true, e'.key, e'.val], _, ?_, VRel.tuple_list (xs := [.bool true, e.key, e.val]) (ys := [.bool true, e'.key, e'.val]) (.cons (.bool _) (.cons hk (.cons hv .nil))), k1, k2, rfl⟩
        have hso := run_setObj' (P := P) (o1 := .mapIter (some s2.x) since (seen.push e.born) x.2) hw (by intro _ _ _ h; cases h)
        unfold Instr.next
        simp only [Sem.run_bind, hget, Result.andThen, hget2, hcond, hl1]
        have f1 : List.filter (fun x => decide (x.born < since)) [e'] = [e'] := by simp [h3]
        have f2 : List.filter (fun x => decide (since ≤ x.born)) [e'] = [] := by simp; omega
        have f3 : ¬ since ≤ e'.born := by omega
        rw [← hbn]
        rw [← hbn] at hso
        simp [choose, Sem.run, Question.forced, f1, f2, f3, hso, Result.andThen]
      · cases h
    · cases h
  · cases h

theorem entry_ok (hr : Rel P ι σ w) {it it' v : Value} (hi : VRel ι it it') (h : entry σ it = .ok v) : ∃ v', (Instr.entry it').run P w = .ok v' w ∧ VRel ι v v' := by
  unfold entry at h
  split at h
  · rename_i r sp
    split at h
    · rename_i m since seen stepped hg
      obtain ⟨stamp, h1, h⟩ := Res.bind_ok.1 h
      obtain ⟨x, h2, h⟩ := Res.bind_ok.1 h
      obtain ⟨h3, h⟩ := sure_ok.1 h
      obtain ⟨e, h4, h⟩ := Res.bind_ok.1 h
      cases h
      obtain ⟨sl, o', hs, rfl, hw, hor⟩ := hr.iter hi hg
      cases hor with
      | mapIter _ _ _ hb =>
      obtain ⟨s2, es', hs2, rfl, hw2, hmr, hg2⟩ := hr.mapAt hb h2
      have hget := run_getObj' (P := P) hw (by intro _ _ _ h; cases h)
      have hget2 := run_getObj' (P := P) hw2 not_cells_map
      obtain ⟨e', h5, hk, hv⟩ := hmr.ml.find (fun b => b == stamp) (need_ok.1 h4)
      have h3 : x.2 = stepped := by simpa using h3
      refine ⟨.tuple #[e'.key, e'.val], ?_, VRel.tuple_list (xs := [e.key, e.val]) (ys := [e'.key, e'.val]) (.cons hk (.cons hv .nil))⟩
      have h6 : (es'.find? fun e => e.born == stamp) = some e' := by rw [← Array.find?_toList]; exact h5
      unfold Instr.entry
      simp only [Sem.run_bind, hget, Result.andThen, need_ok.1 h1, hget2, h3, bne_self_eq_false, Bool.false_eq_true, if_false, h6, Sem.run_pure]
    · cases h
  · cases h

theorem range_ok (hr : Rel P ι σ w) (hf : ι σ.next = .unborn) {t : TypeId} {x x' v : Value} (hx : VRel ι x x') (h : range P σ t x = .ok (v, σ')) :
    ∃ v' w' ι', (Instr.range t x').run P w = .ok v' w' ∧ VRel ι' v v' ∧ Rel P ι' σ' w' ∧ Step ι σ w ι' σ' w' := by
  unfold range at h
  obtain ⟨o, h1, h⟩ := Res.bind_ok.1 h
  cases h
  have fin : ∀ (o' : Obj), (∀ s, ORel P ι s o o') → (∀ w0 : World, w0 = w → (Instr.range t x').run P w = .ok (.pointer (some ⟨w.heap.size, 0, none⟩)) { w with heap := w.heap.push o' }) →
      ∃ v' w' ι', (Instr.range t x').run P w = .ok v' w' ∧ VRel ι' (.pointer (some ⟨σ.next, 0, none⟩)) v' ∧ Rel P ι' (σ.alloc o) w' ∧ Step ι σ w ι' (σ.alloc o) w' := by
    intro o' ho hrun
    obtain ⟨k1, k2⟩ := hr.alloc hf (ho ⟨w.heap.size, none⟩)
    exact ⟨_, _, _, hrun w rfl, .ptr (by simp [ARel, Emb.set]), k1, k2⟩
  split at h1
  · rename_i hu
    cases h1; cases hx
    exact fin _ (fun s => .stringIter _ _) fun _ _ => by simp [Instr.range, run_under hu, Result.andThen, newObj, Sem.run]
  · rename_i hu
    cases h1; cases hx
    exact fin _ (fun s => .nilIter _ _ _) fun _ _ => by simp [Instr.range, run_under hu, Result.andThen, newObj, Sem.run]
  · rename_i hu
    obtain ⟨y, h2, h1⟩ := Res.bind_ok.1 h1
    cases h1
    obtain ⟨r', rfl, hb⟩ := hx.map_inv
    obtain ⟨s2, es', hs2, rfl, hw2, hmr, hg2⟩ := hr.mapAt hb h2
    have hget2 := run_getObj' (P := P) hw2 not_cells_map
    exact fin _ (fun s => .mapIter _ _ _ hb) fun _ _ => by simp [Instr.range, run_under hu, Result.andThen, hget2, newObj, Sem.run]
  · cases h1

end Go.Cx

/-
  CxL: operations, sixth part: append, copy, clear; strings over bytes; made slices.
-/

namespace Go.Cx
variable {P : Program} [Tab P] {ι : Emb} {σ σ' : Hp} {w : World}

theorem Rel.congr {w' : World} (hr : Rel P ι σ w) (h : w'.heap = w.heap) : Rel P ι σ w' :=
  ⟨fun b o ho => by rw [h]; exact hr.live b o ho, hr.inj, fun b s hs => by rw [h]; exact hr.bound b s hs, hr.glob, hr.gborn, hr.base, hr.ids, hr.names⟩

theorem Step.drew {d : Nat} : Step ι σ w ι σ { w with drawn := d } :=
  ⟨Nat.le_refl _, Nat.le_refl _, fun _ _ => .inl rfl, fun _ _ _ => rfl, fun _ _ h1 h2 _ => absurd h1 (by omega), fun _ _ h => h, rfl, rfl, rfl⟩

theorem lenV_ok {v v' : Value} (hv : VRel ι v v') {n : Nat} (h : lenV v = .ok n) : (Builtin.lenOf v').run P w = .ok n w := by
  cases hv <;> simp [lenV, Cx.unk, symv] at h <;> subst h <;> rfl

theorem firstOf_ok (hr : Rel P ι σ w) {size n : Nat} {v v' : Value} (hv : VRel ι v v') {l : List Value} (h : firstOf σ size n v = .ok l) :
    ∃ l', LRel (VRel ι) l l' ∧ (Builtin.firstCells size n v').run P w = .ok l'.toArray w := by
  unfold firstOf at h
  split at h
  · rename_i a len c
    cases hv with
    | @sl _ a' _ _ c' ha hc =>
    split at h
    · rename_i h0
      cases h
      refine ⟨[], .nil, ?_⟩
      simp [Builtin.firstCells, h0, loadCells, loadCellsFrom]
    · rename_i k hk
      obtain ⟨l', h1, h2, h3⟩ := cellsAt_ok hr ha h
      refine ⟨l', h1, ?_⟩
      have := run_loadCells_list (P := P) (w := w) a' l' h3
      rw [h2] at this
      simpa [Builtin.firstCells, hk] using this
  · cases h; cases hv
    exact ⟨[], .nil, rfl⟩
  · rename_i s
    cases h; cases hv
    refine ⟨_, LRel.map_same _ _ _ fun b _ => .int _ _, ?_⟩
    simp only [Builtin.firstCells, Sem.run_pure]
    congr 1
    apply Array.toList_inj.1
    simp [ByteArray.extract, ByteArray.copySlice]
  · cases h

theorem nextslicecap_le {m c : Nat} (h : c < m) : Builtin.nextslicecap m c ≤ 8 * m + 4096 := by
  unfold Builtin.nextslicecap
  split
  · omega
  · split
    · omega
    · -- four rounds, each at most by a quarter and 192
      have step : ∀ r k, Builtin.growBy m r k ≤ max k (2 * m + 192) := by
        intro r
        induction r with
        | zero => intro k; simp [Builtin.growBy]; omega
        | succ r ih =>
          intro k
          unfold Builtin.growBy
          split
          · omega
          · have := ih (k + (k + 768) / 4)
            omega
      have := step 4 c
      omega

theorem CRel.le {a : Addr} {c c' : Nat} {s : Slot} (h : CRel ι a c c') (hs : ι a.block = .live s) : c ≤ c' := by
  unfold CRel at h
  rw [hs] at h
  rcases h with h | ⟨_, _, _, _, h, _⟩ <;> omega

/-- A new block in the place of one that was given up. -/
theorem Rel.reborn {w' : World} (hr : Rel P ι σ w) (hn : ι σ.next = .unborn) {s : Slot} {o : Ob} {o' : Obj} (hx : s.x < w.heap.size) (hfree : ∀ b t, ι b = .live t → t.x ≠ s.x) (ho : ORel P ι s o o')
    (hw : w'.heap = w.heap.setIfInBounds s.x o') : Rel P (ι.set σ.next (.live s)) (σ.alloc o) w' := by
  have hle : Le ι (ι.set σ.next (.live s)) := Le.born _ hn
  have hnew : ∀ b t, ι b = .live t → b ≠ σ.next := fun b t hb e => by subst e; rw [hn] at hb; cases hb
  have hbase := hr.base
  refine ⟨?_, ?_, ?_, ?_, ?_, ?_, ?_, fun b v hv => by
    have hq := hr.names b v hv
    have hb' : b ≠ σ.next := fun e => by subst e; rw [hn] at hq; cases hq
    simp [Emb.set, hb', hq]⟩
  · intro b q hq
    rw [Hp.get_alloc] at hq
    by_cases hb : b = σ.next
    · subst hb
      simp at hq; subst hq
      exact ⟨s, by simp [Emb.set], o', by rw [hw]; simp [hx], ho.mono hle⟩
    · simp [hb] at hq
      obtain ⟨t, ht, q', hq', hrr⟩ := hr.live b q hq
      refine ⟨t, by simp [Emb.set, hb, ht], q', ?_, hrr.mono hle⟩
      rw [hw, Array.getElem?_setIfInBounds_ne (Ne.symm (hfree b t ht))]
      exact hq'
  · intro b c t u ht hu hxx
    by_cases hb : b = σ.next <;> by_cases hc : c = σ.next <;> simp [Emb.set, hb, hc] at ht hu
    · exact hb.trans hc.symm
    · subst ht; exact absurd hxx.symm (hfree c u hu)
    · subst hu; exact absurd hxx (hfree b t ht)
    · exact hr.inj b c t u ht hu hxx
  · intro b t ht
    rw [hw]
    by_cases hb : b = σ.next <;> simp [Emb.set, hb] at ht
    · subst ht; simpa using hx
    · simpa using hr.bound b t ht
  · intro b t hb ht
    have hb' : b ≠ σ.next := by omega
    simp [Emb.set, hb'] at ht
    exact hr.glob b t hb ht
  · intro b hb
    have hb' : b ≠ σ.next := by omega
    simp [Emb.set, hb']
    exact hr.gborn b hb
  · simp; omega
  · intro b q hq
    rw [Hp.get_alloc] at hq
    by_cases hb : b = σ.next
    · subst hb; simp
    · simp [hb] at hq; have := hr.ids b q hq; simp; omega

theorem elemT_ok {t e : TypeId} (h : elemT P t = .ok e) : P.underlying t = some (.slice e) := by
  unfold elemT at h
  split at h
  · rename_i hu; cases h; exact hu
  · cases h

theorem info_of {t : TypeId} {n : Nat} (h : szOf P t = .ok n) : ∃ i, P.info? t = some i ∧ i.size = n := by
  have := szOf_ok h
  cases hi : P.info? t with
  | none => simp [hi] at this
  | some i => simp [hi] at this; exact ⟨i, rfl, this⟩

/-- What append does where there is room. -/
theorem run_append_fits {ts : Array TypeId} {ty st xt e : TypeId} {d : TypeDesc} {base : Option Addr} {l c n size : Nat} {x' : Value} {cells : List Value} {w1 : World}
    (h0 : ts[0]? = some st) (h1 : ts[1]? = some xt) (hu : P.underlying st = some (.slice e)) (hx : P.underlying xt = some d) (hd : ∀ k, d ≠ .int k) (hs : szOf P e = .ok size)
    (hn : (Builtin.lenOf x').run P w = .ok n w) (hfit : l + n ≤ c) (hc : (Builtin.firstCells size n x').run P w = .ok cells.toArray w)
    (hst : (match base with | some a => storeCells (a.add (l * size)) cells | none => Pure.pure () : Sem Unit).run P w = .ok () w1) :
    (Builtin.append_ ts ty #[.slice base l c, x']).run P w = .ok (.slice base (l + n) c) w1 := by
  have hz : (match d with | .int _ => true | _ => false) = false := by cases d <;> first | rfl | exact absurd rfl (hd _)
  unfold Builtin.append_
  simp only [h0, h1, List.getElem?_toArray, List.getElem?_cons_zero, List.getElem?_cons_succ, Sem.run_bind, run_under hu, Result.andThen, run_sizeOf' hs w, run_under hx, Sem.run_pure]
  cases d <;> first | exact absurd rfl (hd _) | skip
  all_goals
    simp only [Bool.false_eq_true, if_false, Sem.run_bind, hn, Result.andThen, hfit, if_true, Bool.not_false, hc]
    cases base with
    | none => simp at hst; subst hst; simp
    | some a => simp only at hst; simp [hst, Result.andThen]

theorem run_askRoom (n : Nat) (w : World) : (askRoom n).run P w = .ok () w := by
  unfold askRoom
  split <;> rfl

/-- What append does where there is none. -/
theorem run_append_grows {ts : Array TypeId} {ty st xt e : TypeId} {d : TypeDesc} {base : Option Addr} {l c n size bytes : Nat} {x' z : Value} {old new : List Value} {i : TypeInfo}
    (h0 : ts[0]? = some st) (h1 : ts[1]? = some xt) (hu : P.underlying st = some (.slice e)) (hx : P.underlying xt = some d) (hd : ∀ k, d ≠ .int k) (hs : szOf P e = .ok size) (hi : P.info? e = some i) (hb : i.bytes = bytes) (hz : zeroOf P e = .ok z)
    (hn : ∀ w0 : World, w0 = w → (Builtin.lenOf x').run P w0 = .ok n w0) (hfit : ¬ l + n ≤ c) (hbytes : (8 * (l + n) + 4096) * bytes ≤ 2 ^ 47) (hb0 : 0 < bytes)
    (ho : (Builtin.firstCells size l (.slice base l c)).run P { w with drawn := w.drawn + 1 } = .ok old.toArray { w with drawn := w.drawn + 1 }) (hw : (Builtin.firstCells size n x').run P { w with drawn := w.drawn + 1 } = .ok new.toArray { w with drawn := w.drawn + 1 }) :
    ∃ cap, l + n ≤ cap ∧ (Builtin.append_ ts ty #[.slice base l c, x']).run P w =
      .ok (.slice (some ⟨w.heap.size, 0, none⟩) (l + n) cap) { w with drawn := w.drawn + 1, heap := w.heap.push (.cells (old.toArray ++ new.toArray ++ Builtin.zeroCells z.cells (cap - (l + n))) e) } := by
  have hn' := hn w rfl
  have hlt : c < l + n := by omega
  have hcap := nextslicecap_le hlt
  have hc1 : ¬ (((l + n : Nat) : Int) > IntKind.i64.max ∧ (False ∨ i.bytes = 0)) := by
    rw [hb]; intro ⟨_, h⟩; rcases h with h | h
    · exact h
    · omega
  have hc2 : ¬ (Builtin.nextslicecap (l + n) c * i.bytes > 2 ^ 48) := by
    rw [hb]
    have := Nat.mul_le_mul_right bytes hcap
    have h48 : (2 : Nat) ^ 48 = 2 * 2 ^ 47 := by decide
    omega
  have hti : ∀ w0 : World, (typeInfo e).run P w0 = .ok i w0 := fun w0 => by simp [typeInfo, program, hi, Sem.run, Result.andThen]
  refine ⟨(Question.appendCap (l + n) c e).cut (w.tape w.drawn (.appendCap (l + n) c e)), by simp [Question.cut], ?_⟩
  have hch : (choose (.appendCap (l + n) c e)).run P w = .ok ((Question.appendCap (l + n) c e).cut (w.tape w.drawn (.appendCap (l + n) c e))) { w with drawn := w.drawn + 1 } := by
    simp [choose, Sem.run, Question.forced]
  unfold Builtin.append_
  simp only [h0, h1, List.getElem?_toArray, List.getElem?_cons_zero, List.getElem?_cons_succ, Sem.run_bind, run_under hu, Result.andThen, run_sizeOf' hs w, run_under hx, Sem.run_pure]
  cases d <;> first | exact absurd rfl (hd _) | skip
  all_goals
    simp only [Bool.false_eq_true, if_false, Sem.run_bind, hn', Result.andThen, hfit, hti, hc1, hc2, hch, run_askRoom, ho, Bool.not_false, if_true, hw, run_zero hz, newRow, newObj, Sem.run, Sem.run_pure]

theorem lrel_append_get {l l' : List Value} (h : LRel (VRel ι) l l') {r : Array Value} : ∀ (j : Nat) x, l[j]? = some x → ∃ y, (l'.toArray ++ r)[j]? = some y ∧ VRel ι x y := by
  intro j x hx
  have hj : j < l'.length := by have := (List.getElem?_eq_some_iff.1 hx).1; have := h.length; omega
  exact ⟨l'[j], by simp [Array.getElem?_append, hj], h.get j x _ hx (List.getElem?_eq_getElem hj)⟩

theorem size_zeroCells (z : Array Value) (n : Nat) : (Builtin.zeroCells z n).size = n * z.size := by simp [Builtin.zeroCells]

/-- A grown slice in a new block. -/
theorem grown_new {w0 : World} (hr : Rel P ι σ w0) (hf : ι σ.next = .unborn) {e : TypeId} {i : TypeInfo} (hi : P.info? e = some i) {size : Nat} (hsz : i.size = size) (h0 : 0 < size) {l n cap : Nat} {old new old' new' : List Value} {z : Array Value}
    (ho : LRel (VRel ι) old old') (hn : LRel (VRel ι) new new') (hol : old.length = l * size) (hnl : new.length = n * size) (hz : z.size = size) (hcap : l + n ≤ cap) (hpos : 0 < l + n) :
    ∃ ι', Rel P ι' (σ.alloc (row (old ++ new) e true)) { w0 with heap := w0.heap.push (.cells (old'.toArray ++ new'.toArray ++ Builtin.zeroCells z (cap - (l + n))) e) } ∧
      Step ι σ w0 ι' (σ.alloc (row (old ++ new) e true)) { w0 with heap := w0.heap.push (.cells (old'.toArray ++ new'.toArray ++ Builtin.zeroCells z (cap - (l + n))) e) } ∧
      VRel ι' (.slice (some ⟨σ.next, 0, none⟩) (l + n) (l + n)) (.slice (some ⟨w0.heap.size, 0, none⟩) (l + n) cap) := by
  have hs1 : old'.length = l * size := by rw [← ho.length]; exact hol
  have hs2 : new'.length = n * size := by rw [← hn.length]; exact hnl
  have hcsz : (old'.toArray ++ new'.toArray ++ Builtin.zeroCells z (cap - (l + n))).size = cap * size := by
    simp only [Array.size_append, List.size_toArray, size_zeroCells, hs1, hs2, hz, ← Nat.add_mul]
    congr 1; omega
  obtain ⟨k1, k2⟩ := hr.alloc hf (g := some (cap * size, size)) (row_rel (P := P) (ι := ι) (l := old ++ new) (e := e) (opn := true) (s := ⟨w0.heap.size, some (cap * size, size)⟩) (c' := old'.toArray ++ new'.toArray ++ Builtin.zeroCells z (cap - (l + n)))
    (.inr ⟨cap * size, size, i, rfl, rfl, hcsz, by simp only [List.length_append, hol, hnl, ← Nat.add_mul]; exact Nat.mul_le_mul_right _ hcap, hi, hsz, h0⟩)
    (fun j x hx => by
      have := lrel_append_get (ho.append hn) (r := Builtin.zeroCells z (cap - (l + n))) j x hx
      simpa using this))
  refine ⟨_, k1, k2, .sl (by simp [ARel, Emb.set]) ?_⟩
  simp only [CRel, Emb.set, if_true]
  exact .inr ⟨cap * size, size, rfl, hpos, hcap, by simp⟩

theorem oneCell_rel {x y : Value} (h : VRel ι x y) (h1 : oneCell x = true) : oneCell y = true := by
  cases h <;> first | rfl | (simp [oneCell, Cx.unk] at h1; done) | exact (‹SRel _ _ _›).2

theorem append_ok (hr : Rel P ι σ w) (hf : Fresh ι σ.next σ'.next) {ts : Array TypeId} {ty : TypeId} {s s' x x' v : Value} (hs : VRel ι s s') (hx : VRel ι x x') (h : append P σ ts s x = .ok (v, σ')) :
    ∃ v' w' ι', (Builtin.append_ ts ty #[s', x']).run P w = .ok v' w' ∧ VRel ι' v v' ∧ Rel P ι' σ' w' ∧ Step ι σ w ι' σ' w' := by
  unfold append at h
  split at h
  · rename_i st xt base l cap h0 h1
    split at h
    · cases h
    · cases h
    · rename_i d hnint hux
      obtain ⟨e, he, h⟩ := Res.bind_ok.1 h
      obtain ⟨size, hsz, h⟩ := Res.bind_ok.1 h
      obtain ⟨bytes, hby, h⟩ := Res.bind_ok.1 h
      obtain ⟨z, hz, h⟩ := Res.bind_ok.1 h
      obtain ⟨n, hn, h⟩ := Res.bind_ok.1 h
      obtain ⟨new, hnew, h⟩ := Res.bind_ok.1 h
      obtain ⟨hc, h⟩ := sure_ok.1 h
      simp only [Bool.and_eq_true, decide_eq_true_eq] at hc
      obtain ⟨⟨⟨hc1, hc2⟩, hc3⟩, hc8⟩ := hc
      have hu := elemT_ok he
      have hd : ∀ k, d ≠ .int k := fun k e => hnint k e
      obtain ⟨new', hn1, hn2⟩ := firstOf_ok hr hx hnew
      have hlen' : ∀ w0 : World, w0 = w → (Builtin.lenOf x').run P w0 = .ok n w0 := fun w0 _ => lenV_ok hx hn
      obtain ⟨i, hi, hib⟩ : ∃ i, P.info? e = some i ∧ i.bytes = bytes := by
        have := need_ok.1 hby
        cases hi : P.info? e with
        | none => simp [hi] at this
        | some i => simp [hi] at this; exact ⟨i, rfl, this⟩
      have hisz : i.size = size := by
        obtain ⟨i', h3, h4⟩ := info_of hsz
        rw [hi] at h3; cases h3; exact h4
      split at h
      · -- there is room
        rename_i hfit
        have hfit : l + n ≤ cap := by simpa using hfit
        split at h
        · rename_i a
          obtain ⟨hlive, h⟩ := sure_ok.1 h
          obtain ⟨σ1, h3, h⟩ := Res.bind_ok.1 h
          cases h
          cases hs with
          | @sl _ a' _ _ c' ha hcr =>
          obtain ⟨o, ho⟩ := Option.isSome_iff_exists.1 hlive
          obtain ⟨t, _, ht, _⟩ := hr.block ha ho
          obtain ⟨w', h4, h5, h6, h7⟩ := setCells_ok hr (ha.add (l * size)) hn1 h3
          have hcc : l + n ≤ c' := Nat.le_trans hfit (hcr.le ht)
          exact ⟨_, w', ι, run_append_fits h0 h1 hu hux hd hsz (hlen' w rfl) hcc hn2 h4, .sl ha hcr, h5, h6⟩
        · obtain ⟨h3, h⟩ := sure_ok.1 h
          cases h
          cases hs with
          | slnil =>
          have : new = [] := by simpa using h3
          subst this
          have : new' = [] := by cases hn1; rfl
          subst this
          exact ⟨_, w, ι, run_append_fits (base := none) h0 h1 hu hux hd hsz (hlen' w rfl) hfit hn2 rfl, .slnil _ _, hr, Step.refl _ _ _⟩
      · rename_i hfit
        have hfit : ¬ l + n ≤ cap := by simpa using hfit
        obtain ⟨old, hold, h⟩ := Res.bind_ok.1 h
        obtain ⟨hc4, h⟩ := sure_ok.1 h
        simp only [Bool.and_eq_true, decide_eq_true_eq] at hc4
        obtain ⟨⟨hc4, hc5⟩, hc6⟩ := hc4
        have hrd : Rel P ι σ { w with drawn := w.drawn + 1 } := hr.congr rfl
        have hpos : 0 < l + n := by omega
        cases base with
        | none =>
          obtain ⟨h3, h⟩ := sure_ok.1 h
          cases h
          cases hs with
          | slnil =>
          obtain ⟨old', ho1, ho2⟩ := firstOf_ok hrd (.slnil l cap) hold
          obtain ⟨new'', hn3, hn4⟩ := firstOf_ok hrd hx hnew
          obtain ⟨k, hk, hrun⟩ := run_append_grows (ty := ty) (base := none) h0 h1 hu hux hd hsz hi hib hz hlen' hfit hc5 hc6 ho2 hn4
          obtain ⟨ι', g1, g2, g3⟩ := grown_new hrd (hf _ (Nat.le_refl _) (by simp)) hi hisz hc2 ho1 hn3 hc4 hc1 hc3 hk hpos
          exact ⟨_, _, ι', hrun, g3, g1, Step.trans hrd Step.drew g2⟩
        | some a =>
          cases hs with
          | @sl _ a' _ _ c' ha hcr =>
          simp only at h
          split at h
          · -- a closed block
            rename_i hb
            cases h
            obtain ⟨t, o', ht, hae, ho', hor⟩ := hr.block ha hb
            have hcc : c' = cap := by
              unfold CRel at hcr
              rw [ht] at hcr
              rcases hcr with hcr | ⟨_, _, hg, _⟩
              · exact hcr
              · cases hor with
                | cells hg' _ =>
                  rcases hg' with ⟨hg', _⟩ | ⟨_, _, _, _, hop, _⟩
                  · rw [hg'] at hg; cases hg
                  · cases hop
            subst hcc
            obtain ⟨old', ho1, ho2⟩ := firstOf_ok hrd (.sl ha hcr) hold
            obtain ⟨new'', hn3, hn4⟩ := firstOf_ok hrd hx hnew
            obtain ⟨k, hk, hrun⟩ := run_append_grows (ty := ty) (base := some a') h0 h1 hu hux hd hsz hi hib hz hlen' hfit hc5 hc6 ho2 hn4
            obtain ⟨ι', g1, g2, g3⟩ := grown_new hrd (hf _ (Nat.le_refl _) (by simp)) hi hisz hc2 ho1 hn3 hc4 hc1 hc3 hk hpos
            exact ⟨_, _, ι', hrun, g3, g1, Step.trans hrd Step.drew g2⟩
          · -- a grown block: it is given up
            rename_i c m e' lo hi' hb
            obtain ⟨hc7, hE⟩ := sure_ok.1 h
            cases hE
            simp only [Bool.and_eq_true, decide_eq_true_eq, Option.isNone_iff_eq_none] at hc7
            obtain ⟨⟨⟨⟨⟨⟨hoff, hspot⟩, hcm⟩, hee⟩, hcpos⟩, hlo⟩, hhi⟩ := hc7
            subst hee hlo hhi
            obtain ⟨t, o', ht, hae, ho', hor⟩ := hr.block ha hb
            have hfn : ι σ.next = .unborn := hf _ (Nat.le_refl _) (by simp)
            have hnext : a.block ≠ σ.next := fun e => by rw [e, hfn] at ht; cases ht
            by_cases hcf : l + n ≤ c'
            · -- the model has room
              have hslack : ∃ csz esz, t.grown = some (csz, esz) ∧ c' * esz = csz := by
                unfold CRel at hcr
                rw [ht] at hcr
                rcases hcr with hcr | ⟨csz, esz, hg, _, _, hend⟩
                · omega
                · exact ⟨csz, esz, hg, by omega⟩
              obtain ⟨csz, esz, hg, hend⟩ := hslack
              cases hor with
              | @cells c0 _ _ _ _ _ c1 hg' hcells =>
              obtain ⟨hc1sz, hes⟩ : c1.size = csz ∧ esz = size := by
                rcases hg' with ⟨hg', _⟩ | ⟨csz', esz', i', hg', _, h5, _, h6, h7, _⟩
                · rw [hg'] at hg; cases hg
                · rw [hg] at hg'; cases hg'
                  rw [hi] at h6; cases h6
                  exact ⟨h5, by omega⟩
              subst hes
              have hone : ∀ u ∈ new', oneCell u = true := fun u hu => by
                obtain ⟨j, hj⟩ := List.getElem?_of_mem hu
                have hjl : j < new.length := by have := (List.getElem?_eq_some_iff.1 hj).1; have := hn1.length; omega
                exact oneCell_rel (hn1.get j _ u (List.getElem?_eq_getElem hjl) hj) (List.all_eq_true.1 hc8 _ (List.getElem_mem hjl))
              have hnl : new'.length = n * esz := by rw [← hn1.length]; exact hc1
              have hroom : l * esz + 0 + new'.length ≤ c1.size := by
                rw [hnl, hc1sz, ← hend, Nat.add_zero, ← Nat.add_mul]
                exact Nat.mul_le_mul_right _ hcf
              have hrun := run_storeCells' (P := P) t.x e' (0, 0) (l * esz) new' 0 c1 w ho' hroom (fun j _ _ h => by omega) hone
              have hnpos : 0 < n := by
                rcases Nat.eq_zero_or_pos n with h0 | h0
                · exfalso
                  subst h0
                  -- l is beyond the room: there are no such cells
                  unfold firstOf at hold
                  simp only at hold
                  split at hold
                  · rename_i hz0
                    have := Nat.mul_eq_zero.1 hz0
                    omega
                  · rename_i kk hkk
                    unfold cellsAt at hold
                    rw [hb, hspot] at hold
                    simp only at hold
                    obtain ⟨hm1, _⟩ := sure_ok.1 hold
                    have hm1 : a.off + (kk + 1) ≤ m := by simpa using hm1
                    have : l * esz ≤ cap * esz := by omega
                    have := Nat.le_of_mul_le_mul_right this hc2
                    omega
                · exact h0
              have hne : new' ≠ [] := by
                intro h0
                rw [h0] at hnl
                have := Nat.mul_pos hnpos hc2
                simp at hnl; omega
              have hrun : (storeCells ⟨t.x, l * esz, none⟩ new').run P w = .ok () { w with heap := w.heap.setIfInBounds t.x (.cells (ow c1 (l * esz) new') e' (0, 0)) } := by
                cases new' with
                | nil => exact absurd rfl hne
                | cons u r => exact hrun
              have haddr : a'.add (l * esz) = ⟨t.x, l * esz, none⟩ := by
                rw [hae, hspot, hoff]
                unfold Addr.add; split
                · rename_i h0; rw [h0]
                · simp
              rw [← haddr] at hrun
              obtain ⟨q1, q2⟩ := hr.kill hb
              have hcont : ∀ (j : Nat) x, (old ++ new)[j]? = some x → ∃ y, (ow c1 (l * esz) new')[j]? = some y ∧ VRel ι x y := by
                intro j x hx
                rw [get_ow _ _ _ _ (by omega)]
                by_cases hj : l * esz ≤ j
                · rw [if_pos hj]
                  rw [List.getElem?_append_right (by omega), hc4] at hx
                  have hj2 : j - l * esz < new'.length := by have := (List.getElem?_eq_some_iff.1 hx).1; have := hn1.length; omega
                  exact ⟨new'[j - l * esz], by simp [List.getElem?_eq_getElem hj2], hn1.get _ _ _ hx (List.getElem?_eq_getElem hj2)⟩
                · rw [if_neg hj]
                  rw [List.getElem?_append_left (by omega)] at hx
                  unfold firstOf at hold
                  simp only at hold
                  split at hold
                  · cases hold; simp at hx
                  · rename_i kk hkk
                    unfold cellsAt at hold
                    rw [hb, hspot] at hold
                    simp only at hold
                    obtain ⟨hm1, hold⟩ := sure_ok.1 hold
                    have hm1 : a.off + (kk + 1) ≤ m := by simpa using hm1
                    obtain ⟨_, g2⟩ := gets_ok hold
                    have := g2 j x hx
                    rw [hoff, Nat.zero_add] at this
                    exact hcells j (by omega) x this
              have hor2 : ORel P (ι.set a.block .dead) t (row (old ++ new) e' true) (.cells (ow c1 (l * esz) new') e') := by
                refine row_rel (.inr ⟨csz, esz, i, hg, rfl, by simp [hc1sz], ?_, hi, hisz, hc2⟩) fun j x hx => ?_
                · rw [List.length_append, hc4, hc1, ← hend, ← Nat.add_mul]
                  exact Nat.mul_le_mul_right _ hcf
                · obtain ⟨y, h1, h2⟩ := hcont j x hx
                  exact ⟨y, h1, h2.mono (Le.kill ht)⟩
              have hfree : ∀ b u, (ι.set a.block .dead) b = .live u → u.x ≠ t.x := by
                intro b u hbu e
                by_cases hba : b = a.block
                · simp [Emb.set, hba] at hbu
                · simp [Emb.set, hba] at hbu
                  exact hba (hr.inj b a.block u t hbu ht e)
              have r1 := q1.reborn (w' := { w with heap := w.heap.setIfInBounds t.x (.cells (ow c1 (l * esz) new') e') }) (by simp [Emb.set, Ne.symm hnext, hfn]) (hr.bound _ _ ht) hfree hor2 rfl
              refine ⟨_, _, _, run_append_fits (ty := ty) h0 h1 hu hux hd hsz (hlen' w rfl) hcf hn2 hrun, ?_, r1, ?_⟩
              · refine .sl ?_ ?_
                · simp [ARel, Emb.set, hae, hspot, hoff]
                · simp only [CRel, Emb.set, Hp.next_kill, if_true]
                  exact .inr ⟨csz, esz, hg, hpos, hcf, by simpa using hend⟩
              · refine ⟨by simp, by simp, ?_, ?_, ?_, ?_, rfl, rfl, rfl⟩
                · intro b hb'
                  by_cases hba : b = a.block
                  · subst hba
                    exact .inr ⟨by simp [Emb.set, hnext], ⟨_, hb⟩, _, ht⟩
                  · have hbn : b ≠ σ.next := by simp at hb'; omega
                    exact .inl (by simp [Emb.set, hba, hbn])
                · intro x hx hnx
                  have hne' : t.x ≠ x := hnx a.block t ⟨_, hb⟩ ht
                  simp [Array.getElem?_setIfInBounds_ne hne']
                · intro b s h3 h4 hbs
                  have hbn : b = σ.next := by simp at h4; omega
                  subst hbn
                  simp [Emb.set] at hbs
                  subst hbs
                  exact .inr ⟨a.block, t, ⟨_, hb⟩, ht, rfl⟩
                · intro b hbl ⟨q, hq⟩
                  rw [Hp.get_alloc] at hq
                  have hbn : b ≠ σ.next := by omega
                  simp [hbn] at hq
                  rw [Hp.kill, Hp.get_put] at hq
                  by_cases hba : b = a.block
                  · simp [hba] at hq
                  · simp [hba] at hq; exact ⟨q, hq⟩
            · obtain ⟨old', ho1, ho2⟩ := firstOf_ok hrd (.sl ha hcr) hold
              obtain ⟨new'', hn3, hn4⟩ := firstOf_ok hrd hx hnew
              obtain ⟨k, hk, hrun⟩ := run_append_grows (ty := ty) (base := some a') h0 h1 hu hux hd hsz hi hib hz hlen' hcf hc5 hc6 ho2 hn4
              obtain ⟨q1, q2⟩ := hrd.kill hb
              have hle : Le ι (ι.set a.block .dead) := Le.kill (hr.live a.block _ hb).choose_spec.1
              obtain ⟨ι', g1, g2, g3⟩ := grown_new q1 (by simp [Emb.set, Ne.symm hnext, hfn]) hi hisz hc2 (ho1.mono fun _ _ h => h.mono hle) (hn3.mono fun _ _ h => h.mono hle) hc4 hc1 hc3 hk hpos
              exact ⟨_, _, ι', hrun, g3, g1, Step.trans hrd Step.drew (Step.trans q1 q2 g2)⟩
          · cases h
  · cases h

end Go.Cx

/-
  CxK: operations, seventh part: copy, clear, strings over bytes, made slices.
-/

namespace Go.Cx
variable {P : Program} [Tab P] {ι : Emb} {σ σ' : Hp} {w : World}

theorem copy_ok (hr : Rel P ι σ w) {ts : Array TypeId} {ty : TypeId} {d d' s s' v : Value} (hd : VRel ι d d') (hs : VRel ι s s') (h : copy P σ ts d s = .ok (v, σ')) :
    ∃ w', (Builtin.copy_ ts ty #[d', s']).run P w = .ok v w' ∧ VRel ι v v ∧ Rel P ι σ' w' ∧ Step ι σ w ι σ' w' ∧ σ'.next = σ.next := by
  unfold copy at h
  split at h
  · rename_i t base l cap h0
    obtain ⟨e, he, h⟩ := Res.bind_ok.1 h
    obtain ⟨size, hsz, h⟩ := Res.bind_ok.1 h
    obtain ⟨m, hm, h⟩ := Res.bind_ok.1 h
    obtain ⟨cs, hcs, h⟩ := Res.bind_ok.1 h
    obtain ⟨hc, h⟩ := sure_ok.1 h
    obtain ⟨cs', c1, c2⟩ := firstOf_ok hr hs hcs
    have hu := elemT_ok he
    have hlen : (Builtin.lenOf s').run P w = .ok m w := lenV_ok hs hm
    cases base with
    | none =>
      obtain ⟨h3, h⟩ := sure_ok.1 h
      cases h
      cases hd
      have : cs = [] := by simpa using h3
      subst this
      cases c1
      refine ⟨w, ?_, .int _ _, hr, Step.refl _ _ _, rfl⟩
      unfold Builtin.copy_
      simp [h0, run_under hu, Result.andThen, hlen, run_sizeOf' hsz w, c2]
    | some a =>
      obtain ⟨σ1, h3, h⟩ := Res.bind_ok.1 h
      cases h
      cases hd with
      | @sl _ a' _ _ c' ha hcr =>
      obtain ⟨w', h4, h5, h6, h7⟩ := setCells_ok hr ha c1 h3
      refine ⟨w', ?_, .int _ _, h5, h6, h7⟩
      unfold Builtin.copy_
      simp [h0, run_under hu, Result.andThen, hlen, run_sizeOf' hsz w, c2, h4]
  · cases h

theorem lrel_self_mem {l : List Value} (h : LRel (VRel ι) l l) : ∀ x ∈ l, VRel ι x x := fun x hx => by
  obtain ⟨j, hj⟩ := List.getElem?_of_mem hx
  exact h.get j x x hj hj

theorem lrel_self {l : List Value} (h : ∀ x ∈ l, VRel ι x x) : LRel (VRel ι) l l := by
  induction l with
  | nil => exact .nil
  | cons a l ih => exact .cons (h a (by simp)) (ih fun x hx => h x (by simp [hx]))

theorem range_cells {z : Array Value} (h : LRel (VRel ι) z.toList z.toList) (n : Nat) (hn : z.size = 0 → n = 0) : ∀ x ∈ (List.range n).map (fun i => z[i % z.size]!), VRel ι x x := by
  intro x hx
  obtain ⟨i, hi, rfl⟩ := List.mem_map.1 hx
  have hi : i < n := by simpa using hi
  have hz : 0 < z.size := by
    rcases Nat.eq_zero_or_pos z.size with h0 | h0
    · have := hn h0; omega
    · exact h0
  have hlt := Nat.mod_lt i hz
  rw [getElem!_pos z _ hlt]
  exact lrel_self_mem h _ (by simp)

theorem zeros_eq (z : Array Value) (n : Nat) : ((Array.range n).map fun i => z[i % z.size]!) = zeros z n := by
  apply Array.toList_inj.1
  simp [zeros]

theorem clear_ok (hr : Rel P ι σ w) {ts : Array TypeId} {ty : TypeId} {x x' v : Value} (hx : VRel ι x x') (h : clear P σ ts x = .ok (v, σ')) :
    v = .tuple #[] ∧ ∃ w', (Builtin.clear_ ts ty #[x']).run P w = .ok (.tuple #[]) w' ∧ Rel P ι σ' w' ∧ Step ι σ w ι σ' w' ∧ σ'.next = σ.next := by
  unfold clear at h
  split at h
  · rename_i hu
    obtain ⟨t, ht, hu⟩ := Option.bind_eq_some_iff.1 hu
    cases h; cases hx
    exact ⟨rfl, w, by unfold Builtin.clear_; simp [ht, run_under hu, Result.andThen], hr, Step.refl _ _ _, rfl⟩
  · rename_i hu
    obtain ⟨t, ht, hu⟩ := Option.bind_eq_some_iff.1 hu
    cases h; cases hx
    exact ⟨rfl, w, by unfold Builtin.clear_; simp [ht, run_under hu, Result.andThen], hr, Step.refl _ _ _, rfl⟩
  · rename_i hn hu
    obtain ⟨t, ht, hu⟩ := Option.bind_eq_some_iff.1 hu
    cases h
    have : ∃ a' c', x' = .slice a' 0 c' := by cases hx <;> exact ⟨_, _, rfl⟩
    obtain ⟨a', c', rfl⟩ := this
    exact ⟨rfl, w, by unfold Builtin.clear_; cases a' <;> simp [ht, run_under hu, Result.andThen], hr, Step.refl _ _ _, rfl⟩
  · rename_i e a n c hn hu
    obtain ⟨t, ht, hu⟩ := Option.bind_eq_some_iff.1 hu
    obtain ⟨z, hz, h⟩ := Res.bind_ok.1 h
    obtain ⟨σ1, h3, h⟩ := Res.bind_ok.1 h
    cases h
    cases hx with
    | @sl _ a' _ _ c' ha hcr =>
    have hself : LRel (VRel ι) (Builtin.zeroCells z.cells n).toList (Builtin.zeroCells z.cells n).toList := by
      unfold Builtin.zeroCells
      refine lrel_self ?_
      have := range_cells (cells_self (zero_rel hz ι)) (n * z.cells.size) (fun h => by rw [h]; rfl)
      intro x hx
      refine this x ?_
      simpa using hx
    obtain ⟨w', h4, h5, h6, h7⟩ := setCells_ok hr ha hself h3
    refine ⟨rfl, w', ?_, h5, h6, h7⟩
    have hn0 : n ≠ 0 := fun h => hn h
    unfold Builtin.clear_
    cases n with
    | zero => exact absurd rfl hn0
    | succ n => simp [ht, run_under hu, Result.andThen, run_zero hz w, h4]
  · cases h

theorem add_add (a : Addr) (j : Nat) : (a.add 1).add j = a.add (j + 1) := by
  unfold Addr.add
  by_cases hj : j = 0
  · subst hj; simp
  · simp [hj]; omega

theorem run_loadBytes' : ∀ (ns : List Int) (a : Addr) (acc : ByteArray), (∀ j x, ns[j]? = some x → w.cell? (a.add j) = some (.int .u8 x)) →
    (loadBytes a acc ns.length).run P w = .ok ⟨acc.data ++ (ns.map fun n => UInt8.ofNat n.toNat).toArray⟩ w
  | [], a, acc, _ => by cases acc; simp [loadBytes]
  | x :: ns, a, acc, h => by
    have h0 : w.cell? a = some (.int .u8 x) := by have := h 0 x rfl; simpa [Addr.add] using this
    have ih := run_loadBytes' ns (a.add 1) (acc.push x.toNat.toUInt8) (fun j y hj => by rw [add_add]; exact h (j + 1) y (by simpa using hj))
    simp only [List.length_cons, loadBytes, Sem.run_bind, Go.load, Sem.run, h0, Result.andThen]
    rw [ih]
    cases acc
    simp [ByteArray.push]

theorem freeze_eq {x e : Nat} {c : Array Value} {lo hi off n : Nat} (hx : w.heap[x]? = some (.cells c e (lo, hi))) (hn : n ≠ 0) :
    w.freeze ⟨x, off, none⟩ n = { w with heap := w.heap.setIfInBounds x (.cells c e (if (lo == hi) = true then (off, off + n) else (min lo off, max hi (off + n)))) } := by
  have hlt := (Array.getElem?_eq_some_iff.1 hx).1
  have hxe : w.heap[x] = .cells c e (lo, hi) := (Array.getElem?_eq_some_iff.1 hx).2
  unfold World.freeze
  rw [if_neg hn]
  congr 1
  apply Array.ext
  · simp
  · intro j h1 h2
    rw [Array.getElem_modify]
    by_cases hj : x = j
    · subst hj; simp [hxe]
    · rw [if_neg hj, Array.getElem_setIfInBounds_ne (h := hj)]

theorem liesAt_one {e : TypeId} (hc : P.cellsOf e = 1) (count off n : Nat) (hn : off + n ≤ count) : liesAt P P.depth e count off e n = true := by
  have hd : P.depth = (2 * (P.types.size + Made.depth) + 1) + 1 := rfl
  rw [hd]
  simp only [liesAt, Bool.or_eq_true]
  left
  rw [hd]
  simp [rowAt, hc, hn, sameLayout, Nat.mod_one]

theorem ustring_ok (hr : Rel P ι σ w) {ts : Array TypeId} {ty : TypeId} {p p' n n' v : Value} (hp : VRel ι p p') (hn : VRel ι n n') (h : ustring P σ ts p n = .ok (v, σ')) :
    ∃ w', (Builtin.unsafeString_ ts ty #[p', n']).run P w = .ok v w' ∧ VRel ι v v ∧ Rel P ι σ' w' ∧ Step ι σ w ι σ' w' ∧ σ'.next = σ.next := by
  have hdef : ∀ (q : Option Addr) (k : Int), Builtin.unsafeString_ ts ty #[.pointer q, .int .i64 k] = (do
      let n ← asInt (.int .i64 k)
      let some pt := ts[0]? | stuck "unsafe.String: no argument types"
      if n < 0 then runtimePanic (.error "unsafe.String: len out of range")
      if n > IntKind.i64.max then unsupported (.unsafePointer "String: a length above the largest int")
      match q with
      | none =>
        if n = 0 then Pure.pure (.string .empty)
        else runtimePanic (.error "unsafe.String: ptr is nil and len is not zero")
      | some a =>
        if n = 0 then Pure.pure (.string .empty)
        else if ← variablesAt a (← elemOf pt) n.toNat then do
          let s ← loadBytes a .empty n.toNat
          freeze a n.toNat
          Pure.pure (.string s)
        else unsupported (.unsafePointer "String: not so many bytes at ptr")) := fun q k => by cases q <;> rfl
  unfold ustring at h
  split at h
  · rename_i e a k hu
    obtain ⟨t, ht, hu⟩ := Option.bind_eq_some_iff.1 hu
    obtain ⟨hk, h⟩ := sure_ok.1 h
    simp only [Bool.and_eq_true, decide_eq_true_eq] at hk
    cases hn
    obtain ⟨a', rfl, ha⟩ := hp.ptr_inv
    have c1 : ¬ k < 0 := by omega
    have c2 : ¬ k > IntKind.i64.max := by omega
    split at h
    · rename_i h0
      cases h
      have hk0 : k = 0 := by omega
      subst hk0
      refine ⟨w, ?_, .string _, hr, Step.refl _ _ _, rfl⟩
      rw [hdef]
      simp [asInt, asIntOf, ht, c2, Result.andThen]
    · rename_i m hm
      split at h
      · rename_i c cn e' lo hi opn hb
        obtain ⟨h1, hE⟩ := sure_ok.1 h
        clear h
        simp only [Bool.and_eq_true, decide_eq_true_eq, Option.isNone_iff_eq_none] at h1
        obtain ⟨⟨⟨⟨⟨hspot, hee⟩, hcell⟩, hle⟩, _⟩, _⟩ := h1
        subst hee
        obtain ⟨vs, hvs, hE⟩ := Res.bind_ok.1 hE
        obtain ⟨bs, hbs, hE⟩ := Res.bind_ok.1 hE
        cases hE
        obtain ⟨l', d1, d2, d3⟩ := cellsAt_ok hr ha hvs
        obtain ⟨ns, f1, f2⟩ := bytesIn_ok d1 hbs
        obtain ⟨s, o', hs, hae, ho', hor⟩ := hr.block ha hb
        cases hor with
        | @cells _ _ _ _ _ _ c' hg hcells =>
        have hsz : cn ≤ c'.size := by rcases hg with ⟨_, _, h⟩ | ⟨_, _, _, _, _, h, h', _⟩ <;> omega
        have hnl : ns.length = m + 1 := by rw [← d2, f1]; simp
        have hload := run_loadBytes' (P := P) (w := w) ns a' .empty (fun j x hj => d3 j _ (by rw [f1]; simp [hj]))
        rw [hnl] at hload
        have hkn : k ≠ 0 := by omega
        rw [hspot] at hae
        have hvar : (variablesAt a' e' (m + 1)).run P w = .ok true w := by
          simp only [variablesAt, Sem.run_bind, program, Sem.run, Result.andThen, hae, shape, World.shape?, ho']
          rw [hcell, Nat.div_one, liesAt_one hcell _ _ _ (by omega)]
          rfl
        have hel : (elemOf t).run P w = .ok e' w := by simp [elemOf, run_under hu, Result.andThen]
        have hfz : (freeze a' (m + 1)).run P w = .ok () { w with heap := w.heap.setIfInBounds s.x (.cells c' e' (if (lo == hi) = true then (a.off, a.off + (m + 1)) else (min lo a.off, max hi (a.off + (m + 1))))) } := by
          simp only [freeze, Sem.run]
          rw [hae, freeze_eq ho' (by omega)]
        have hor2 : ORel P ι s (.cells c cn e' (if (lo == hi) = true then a.off else min lo a.off) (if (lo == hi) = true then a.off + (m + 1) else max hi (a.off + (m + 1))) opn)
            (.cells c' e' (if (lo == hi) = true then (a.off, a.off + (m + 1)) else (min lo a.off, max hi (a.off + (m + 1))))) := by
          have := ORel.cells (P := P) (ι := ι) (s := s) (c := c) (n := cn) (e := e') (lo := if (lo == hi) = true then a.off else min lo a.off) (hi := if (lo == hi) = true then a.off + (m + 1) else max hi (a.off + (m + 1))) (opn := opn) (c' := c') hg hcells
          cases hq : (lo == hi) <;> simp only [hq, if_true, if_false, Bool.false_eq_true] at this ⊢ <;> exact this
        obtain ⟨k1, k2⟩ := hr.put hb hs hor2
        refine ⟨_, ?_, .string _, k1, k2, rfl⟩
        rw [hdef]
        simp only [asInt, asIntOf, Sem.run_bind, Sem.run_pure, Result.andThen, ht, c1, c2, if_false, hkn, hel, hm, hvar, if_true, hload, hfz]
        rw [f2]
        simp
      · cases h
  · rename_i hu
    obtain ⟨t, ht, hu⟩ := Option.bind_eq_some_iff.1 hu
    cases h; cases hp; cases hn
    refine ⟨w, ?_, .string _, hr, Step.refl _ _ _, rfl⟩
    have c2 : ¬ (0 : Int) > IntKind.i64.max := by decide
    rw [hdef]
    simp [asInt, asIntOf, ht, c2, Result.andThen]
  · cases h

theorem uptr_ok (hr : Rel P ι σ w) {src dst : TypeId} {x x' v : Value} (hx : VRel ι x x') (h : uptr P σ src dst x = .ok v) : (Conv.unsafePointer src dst x').run P w = .ok x' w ∧ VRel ι v x' := by
  unfold uptr at h
  have seen : ∀ {a' : Addr} {c : Array Value} {e : TypeId} {f : Nat × Nat}, w.heap[a'.block]? = some (.cells c e f) → (Conv.seenAt a').run P w = .ok a' w := by
    intro a' c e f hw
    simp [Conv.seenAt, viewAt, shape, Sem.run, World.shape?, hw, Result.andThen]
  split at h
  · rename_i t a hu1 hu2
    obtain ⟨n, hn, h⟩ := Res.bind_ok.1 h
    split at h
    · rename_i c m e lo hi hb
      obtain ⟨h1, h⟩ := sure_ok.1 h
      simp only [Bool.and_eq_true, decide_eq_true_eq] at h1
      cases h
      refine ⟨?_, hx⟩
      obtain ⟨a', rfl, ha⟩ := hx.ptr_inv
      obtain ⟨s, o', hs, hae, ho', hor⟩ := hr.block ha hb
      cases hor with
      | @cells _ _ _ _ _ _ c' hg hcells =>
      have hsz : m ≤ c'.size := by rcases hg with ⟨_, _, h⟩ | ⟨_, _, _, _, _, h, h', _⟩ <;> omega
      subst hae
      have hcI : (cellsIn s.x).run P w = .ok (some c'.size) w := by simp [cellsIn, shape, Sem.run, World.shape?, ho', Result.andThen]
      have hno : ¬ (a.off ≥ c'.size) := by omega
      unfold Conv.unsafePointer
      simp [run_under hu1, run_under hu2, Result.andThen, seen (a' := ⟨s.x, a.off, a.spot⟩) ho', hcI, run_sizeOf' hn w, h1.1, hno]
    · cases h
  · rename_i u a hu1 hu2
    obtain ⟨n, hn, h⟩ := Res.bind_ok.1 h
    split at h
    · rename_i c m e lo hi hb
      obtain ⟨h1, h⟩ := sure_ok.1 h
      simp only [Bool.and_eq_true, decide_eq_true_eq] at h1
      cases h
      refine ⟨?_, hx⟩
      obtain ⟨a', rfl, ha⟩ := hx.ptr_inv
      obtain ⟨s, o', hs, hae, ho', hor⟩ := hr.block ha hb
      cases hor with
      | @cells _ _ _ _ _ _ c' hg hcells =>
      have hsz : c'.size = m := by rcases hg with ⟨_, _, h⟩ | ⟨_, _, _, _, h, _⟩ <;> first | exact h | cases h
      subst hae
      have hvar : (variablesAt ⟨s.x, a.off, a.spot⟩ u 1).run P w = .ok true w := by
        simp only [variablesAt, Sem.run_bind, program, Sem.run, Result.andThen, shape, World.shape?, ho']
        rw [hsz, h1.2]
        rfl
      unfold Conv.unsafePointer
      simp [run_under hu1, run_under hu2, Result.andThen, seen (a' := ⟨s.x, a.off, a.spot⟩) ho', run_sizeOf' hn w, h1.1, hvar]
    · cases h
  · cases h

end Go.Cx
