/-
  CxFb: names: what is asked of a table of names; rows of bytes of which the length has a name.
-/
import Derived.Test.YtglglgkaadfhpaaGreatDoorXF
set_option linter.all false
namespace Go.Cx

/-- The names are as they are held to be. -/
def Named (P : Program) [Tab P] (ι : Emb) : Prop := ∀ b v, Tab.nm P b = some v → ι b = .val v

class TabOk (P : Program) [Tab P] : Prop where
  defer : ∀ c vs, Tab.fact P (.defer c) vs = none
  fact : ∀ {ι : Emb}, Named P ι → ∀ {o : Oper} {vs : List Value} {r : Value} {ρ : Operand → Value}, Tab.fact P o.op vs = some r → LRel (VRel ι) vs (o.op.operands.toList.map ρ) →
    ∃ v', (∀ w, (execOp ρ o).run P w = .ok (.value v') w) ∧ VRel ι r v'
  text : ∀ {ι : Emb}, Named P ι → ∀ {b : Nat} {cs : List Value} {v' : Value}, Tab.text P b = some cs → VRel ι (symv b) v' → ∃ s : ByteArray, v' = .string s ∧ LRel (VRel ι) cs (s.data.toList.map byteV)
  apart : ∀ {ι : Emb}, Named P ι → ∀ {kt : TypeId} {k k' : Value} {keys : List Value}, Tab.apart P kt k keys = true → VRel ι k k' →
    (∀ e, prun P (Instr.checkKey e 10000 kt k') = some ()) ∧ ∀ es : List MapEntry, es.map (·.key) = keys → prun P (Instr.findKey kt k' es) = some none
  cmp : ∀ {ι : Emb}, Named P ι → ∀ {a b a' b' : List Value} {c : Int}, Tab.cmp P a b = some c → LRel (VRel ι) a a' → LRel (VRel ι) b b' →
    ∃ x y : List UInt8, a' = x.map byteV ∧ b' = y.map byteV ∧ Extern.BytealgCompare.cmp ⟨x.toArray⟩ ⟨y.toArray⟩ = c
  short : ∀ {ι : Emb}, Named P ι → ∀ {b : Nat} {v' : Value}, Tab.short P b = true → VRel ι (symv b) v' → ∃ s : ByteArray, v' = .string s ∧ s.size ≤ 1048576
  byte : ∀ {ι : Emb}, Named P ι → ∀ {b : Nat} {v' : Value}, Tab.byte P b = true → VRel ι (symv b) v' → ∃ c : UInt8, v' = byteV c
  join : ∀ {ι : Emb}, Named P ι → ∀ {l : List Value} {v : Value} {bs : List UInt8}, Tab.join P l = some v → CDen ι l bs → VRel ι v (.string ⟨bs.toArray⟩)

variable {P : Program} [Tab P] {ι : Emb} {σ σ' : Hp} {w : World} {fr : Fr} {ρ : Operand → Value} {o : Oper}

theorem Rel.named (hr : Rel P ι σ w) : Named P ι := hr.names

/-- A new name. -/
theorem Rel.birth (hr : Rel P ι σ w) (hn : ι σ.next = .unborn) (v : Value) : Rel P (ι.set σ.next (.val v)) ⟨σ.t, σ.next + 1⟩ w := by
  have hle : Le ι (ι.set σ.next (.val v)) := Le.born _ hn
  have hne : ∀ b s, ι.set σ.next (.val v) b = .live s → ι b = .live s := by
    intro b s h
    by_cases hb : b = σ.next
    · simp [Emb.set, hb] at h
    · simpa [Emb.set, hb] using h
  have hbase := hr.base
  refine ⟨?_, fun b c s t h1 h2 h3 => hr.inj b c s t (hne b s h1) (hne c t h2) h3, fun b s h => hr.bound b s (hne b s h), fun b s hb h => hr.glob b s hb (hne b s h), ?_, ?_, ?_, ?_⟩
  · intro b o h
    obtain ⟨s, h1, o', h2, h3⟩ := hr.live b o h
    have hb : b ≠ σ.next := fun e => by subst e; rw [hn] at h1; cases h1
    exact ⟨s, by simp [Emb.set, hb, h1], o', h2, h3.mono hle⟩
  · intro b hb
    have hb' : b ≠ σ.next := by omega
    simp [Emb.set, hb']
    exact hr.gborn b hb
  · show P.globals.size ≤ σ.next + 1
    omega
  · intro b o h
    have := hr.ids b o h
    show b < σ.next + 1
    omega
  · intro b u hu
    have hq := hr.names b u hu
    have hb : b ≠ σ.next := fun e => by subst e; rw [hn] at hq; cases hq
    simp [Emb.set, hb, hq]

/-- What an append to a row of one's own comes to. -/
theorem chunk_append {ts : Array TypeId} {ty st xt e : TypeId} {d : TypeDesc} {L cap x : Nat} {c1 : Array Value} {bs new : List UInt8} {x' z : Value} {i : TypeInfo}
    (h0 : ts[0]? = some st) (h1 : ts[1]? = some xt) (hu : P.underlying st = some (.slice e)) (hx : P.underlying xt = some d) (hd : ∀ k, d ≠ .int k) (hs : szOf P e = .ok 1) (hi : P.info? e = some i) (hb : i.bytes = 1) (hz : zeroOf P e = .ok z) (hzc : z.cells.size = 1)
    (hw : w.heap[x]? = some (.cells c1 e (0, 0))) (hL : bs.length = L) (h2 : L ≤ cap) (h3 : cap ≤ c1.size) (hpos : 0 < L) (hc : ∀ (j : Nat) b, bs[j]? = some b → c1[j]? = some (byteV b)) (hlim : L + new.length ≤ 2 ^ 40)
    (hn : ∀ w0 : World, w0.heap = w.heap → (Builtin.lenOf x').run P w0 = .ok new.length w0) (hf : ∀ w0 : World, w0.heap = w.heap → (Builtin.firstCells 1 new.length x').run P w0 = .ok (new.map byteV).toArray w0) :
    ∃ dr x2 c2 cap2 h', (Builtin.append_ ts ty #[.slice (some ⟨x, 0, none⟩) L cap, x']).run P w = .ok (.slice (some ⟨x2, 0, none⟩) (L + new.length) cap2) { w with drawn := dr, heap := h' } ∧
      ((x2 = x ∧ h' = w.heap.setIfInBounds x (.cells c2 e (0, 0))) ∨ (x2 = w.heap.size ∧ h' = w.heap.push (.cells c2 e (0, 0)))) ∧ L + new.length ≤ cap2 ∧ cap2 ≤ c2.size ∧ ∀ (j : Nat) b, (bs ++ new)[j]? = some b → c2[j]? = some (byteV b) := by
  by_cases hfit : L + new.length ≤ cap
  · have hone : ∀ v ∈ new.map byteV, oneCell v = true := by
      intro v hv
      obtain ⟨b, _, rfl⟩ := List.mem_map.1 hv
      rfl
    have hst := run_storeCells' (P := P) x e (0, 0) L (new.map byteV) 0 c1 w hw (by simp; omega) (fun j _ _ h => by omega) hone
    refine ⟨w.drawn, x, ow c1 L (new.map byteV), cap, w.heap.setIfInBounds x (.cells (ow c1 L (new.map byteV)) e (0, 0)), ?_, .inl ⟨rfl, rfl⟩, hfit, by simpa using h3, ?_⟩
    · refine run_append_fits (ty := ty) (base := some ⟨x, 0, none⟩) h0 h1 hu hx hd hs (hn w rfl) hfit (hf w rfl) ?_
      have e1 : (⟨x, 0, none⟩ : Addr).add (L * 1) = ⟨x, L, none⟩ := by
        unfold Addr.add
        split
        · omega
        · simp
      show (storeCells ((⟨x, 0, none⟩ : Addr).add (L * 1)) (new.map byteV)).run P w = _
      rw [e1, hst]
      cases hnew : new.map byteV with
      | nil =>
        have : w.heap.setIfInBounds x (.cells (ow c1 L []) e (0, 0)) = w.heap := by
          apply Array.ext_getElem?
          intro k
          by_cases hk : x = k
          · subst hk
            have hlt := (Array.getElem?_eq_some_iff.1 hw).1
            simp [hlt, ow]
            have := (Array.getElem?_eq_some_iff.1 hw).2
            exact this.symm
          · simp [Array.getElem?_setIfInBounds_ne hk]
        rw [this]
      | cons a r => simp
    · intro j b hj
      rw [get_ow _ _ _ _ (by simp; omega)]
      by_cases hlt : j < L
      · rw [if_neg (by omega)]
        rw [List.getElem?_append_left (by omega)] at hj
        exact hc j b hj
      · rw [if_pos (by omega)]
        rw [List.getElem?_append_right (by omega), hL] at hj
        simp [hj]
  · have hold : (Builtin.firstCells 1 L (.slice (some ⟨x, 0, none⟩) L cap)).run P { w with drawn := w.drawn + 1 } = .ok (bs.map byteV).toArray { w with drawn := w.drawn + 1 } := by
      have := run_loadCells_list (P := P) (w := { w with drawn := w.drawn + 1 }) ⟨x, 0, none⟩ (bs.map byteV) (fun j v hv => by
        simp only [List.getElem?_map, Option.map_eq_some_iff] at hv
        obtain ⟨b, hb, rfl⟩ := hv
        have h4 := hc j b hb
        have ha : (⟨x, 0, none⟩ : Addr).add j = ⟨x, j, none⟩ := by
          unfold Addr.add
          split
          · rename_i h5; subst h5; rfl
          · simp
        rw [ha]
        simp [World.cell?, hw, h4])
      simpa [Builtin.firstCells, hL] using this
    obtain ⟨k, hk, hrun⟩ := run_append_grows (P := P) (w := w) (ts := ts) (ty := ty) (base := some ⟨x, 0, none⟩) (x' := x') (new := new.map byteV) (n := new.length) h0 h1 hu hx hd hs hi hb hz (fun w0 h => hn w0 (by rw [h])) hfit (by omega) (by omega) hold (hf _ rfl)
    refine ⟨w.drawn + 1, w.heap.size, _, k, _, hrun, .inr ⟨rfl, rfl⟩, hk, ?_, ?_⟩
    · simp [size_zeroCells, hzc]; omega
    · intro j b hj
      have hlt : j < (bs ++ new).length := (List.getElem?_eq_some_iff.1 hj).1
      have e1 : ((bs.map byteV).toArray ++ (new.map byteV).toArray : Array Value)[j]? = some (byteV b) := by
        rw [List.append_toArray, List.getElem?_toArray, ← List.map_append, List.getElem?_map, hj]
        rfl
      rw [Array.getElem?_append, if_pos (by simp at hlt ⊢; omega)]
      exact e1

/-- The row behind it. -/
theorem chunk_rel (hr : Rel P ι σ w) (hf : Fresh ι σ.next (σ.next + 3)) {old : Nat} {ob : Ob} (hold : σ.get old = some ob) {t : Slot} (ht : ι old = .live t) {dr x2 cap2 : Nat} {c2 : Array Value} {h' : Array Obj} {e : TypeId} {i : TypeInfo} {content : List Value} {bs : List UInt8}
    (hcase : (x2 = t.x ∧ h' = w.heap.setIfInBounds t.x (.cells c2 e (0, 0))) ∨ (x2 = w.heap.size ∧ h' = w.heap.push (.cells c2 e (0, 0)))) (hi : P.info? e = some i) (hsz : i.size = 1) (hby : i.bytes = 1)
    (hd : CDen ι content bs) (h0 : 0 < bs.length) (hcap : bs.length ≤ cap2) (hs : cap2 ≤ c2.size) (hc : ∀ (j : Nat) b, bs[j]? = some b → c2[j]? = some (byteV b)) :
    ∃ ι', Rel P ι' (Hp.put ⟨(σ.kill old).t, σ.next + 3⟩ (σ.next + 2) (some (.chunks σ.next e content))) { w with drawn := dr, heap := h' } ∧
      Step ι σ w ι' (Hp.put ⟨(σ.kill old).t, σ.next + 3⟩ (σ.next + 2) (some (.chunks σ.next e content))) { w with drawn := dr, heap := h' } ∧
      VRel ι' (.chan (some σ.next)) (.slice (some ⟨x2, 0, none⟩) bs.length cap2) := by
  have hwd : Rel P ι σ { w with drawn := dr } := hr.congr rfl
  obtain ⟨q1, _⟩ := hwd.kill hold
  have hlt : old < σ.next := hr.ids old ob hold
  have u0 : ι σ.next = .unborn := hf _ (by omega) (by omega)
  have u1 : ι (σ.next + 1) = .unborn := hf _ (by omega) (by omega)
  have u2 : ι (σ.next + 2) = .unborn := hf _ (by omega) (by omega)
  have q2 := q1.birth (by show (ι.set old .dead) σ.next = .unborn; rw [Emb.set, if_neg (by omega)]; exact u0) (.slice (some ⟨x2, 0, none⟩) bs.length cap2)
  have q3 := q2.birth (by show ((ι.set old .dead).set σ.next _) (σ.next + 1) = .unborn; rw [Emb.set, if_neg (by omega), Emb.set, if_neg (by omega)]; exact u1) (.int .i64 (Int.ofNat bs.length))
  have hx1 : t.x < w.heap.size := hr.bound old t ht
  generalize hι3 : ((ι.set old .dead).set (σ.kill old).next (.val (.slice (some ⟨x2, 0, none⟩) bs.length cap2))).set (⟨(σ.kill old).t, (σ.kill old).next + 1⟩ : Hp).next (.val (.int .i64 (Int.ofNat bs.length))) = ι3 at q3
  have g0 : ι3 σ.next = .val (.slice (some ⟨x2, 0, none⟩) bs.length cap2) := by rw [← hι3]; simp [Emb.set]
  have g1 : ι3 (σ.next + 1) = .val (.int .i64 (Int.ofNat bs.length)) := by rw [← hι3]; simp [Emb.set]
  have g2 : ι3 (σ.next + 2) = .unborn := by rw [← hι3]; simp [Emb.set, u2]; omega
  have gd : ι3 old = .dead := by
    rw [← hι3]
    show (((ι.set old .dead).set σ.next _).set (σ.next + 1) _) old = .dead
    rw [Emb.set, if_neg (by omega), Emb.set, if_neg (by omega), Emb.set, if_pos rfl]
  have go : ∀ b, b ≠ old → b ≠ σ.next → b ≠ σ.next + 1 → ι3 b = ι b := by
    intro b h1 h2 h3
    rw [← hι3]
    simp [Emb.set, h1, h2, h3]
  have hfr : ∀ b s, ι3 b = .live s → s.x ≠ t.x := by
    intro b s hb hx
    have h1 : b ≠ old := fun e => by subst e; rw [gd] at hb; cases hb
    have h2 : b ≠ σ.next := fun e => by subst e; rw [g0] at hb; cases hb
    have h3 : b ≠ σ.next + 1 := fun e => by subst e; rw [g1] at hb; cases hb
    rw [go b h1 h2 h3] at hb
    exact h1 (hr.inj b old s t hb ht hx)
  have hle3 : Le ι ι3 := by
    intro b
    by_cases h1 : b = old
    · subst h1; exact .inr (.inr ⟨gd, t, ht⟩)
    · by_cases h2 : b = σ.next
      · subst h2; exact .inl u0
      · by_cases h3 : b = σ.next + 1
        · subst h3; exact .inl u1
        · exact .inr (.inl (go b h1 h2 h3))
  have hor : ∀ s : Slot, s.x = x2 → ORel P ι3 s (.chunks σ.next e content) (.cells c2 e (0, 0)) := by
    intro s hs'
    exact .chunks (hd.mono hle3) (by rw [hs']; exact g0) g1 h0 hcap hs hi hsz hby hc
  have hrel : Rel P (ι3.set (σ.next + 2) (.live ⟨x2, none⟩)) (Hp.put ⟨(σ.kill old).t, σ.next + 3⟩ (σ.next + 2) (some (.chunks σ.next e content))) { w with drawn := dr, heap := h' } := by
    rcases hcase with ⟨e1, e2⟩ | ⟨e1, e2⟩
    · have := q3.reborn (w' := { w with drawn := dr, heap := h' }) g2 (s := ⟨x2, none⟩) (o := .chunks σ.next e content) (o' := .cells c2 e (0, 0)) (by simp only; rw [e1]; exact hx1) (fun b u hb => by simp only; rw [e1]; exact hfr b u hb) (hor _ rfl) (by simp only; rw [e2, e1])
      exact this
    · obtain ⟨k1, _⟩ := q3.alloc g2 (g := none) (o := .chunks σ.next e content) (o' := .cells c2 e (0, 0)) (hor _ (by simp only; rw [e1]))
      have hw' : ({ w with drawn := dr, heap := h' } : World) = { ({ w with drawn := dr } : World) with heap := w.heap.push (.cells c2 e (0, 0)) } := by rw [e2]
      rw [hw', e1]
      exact k1
  have hget : ∀ b, (Hp.put ⟨(σ.kill old).t, σ.next + 3⟩ (σ.next + 2) (some (.chunks σ.next e content))).get b = if b = σ.next + 2 then some (.chunks σ.next e content) else if b = old then none else σ.get b := by
    intro b
    rw [Hp.get_put]
    split
    · rfl
    · show (σ.kill old).get b = _
      rw [Hp.kill, Hp.get_put]
  refine ⟨_, hrel, ⟨by simp, ?_, ?_, ?_, ?_, ?_, rfl, rfl, rfl⟩, .sym σ.next ⟨?_, rfl⟩⟩
  · rcases hcase with ⟨_, e2⟩ | ⟨_, e2⟩ <;> simp [e2]
  · intro b hb
    simp only [Hp.next_put] at hb
    have hb2 : b ≠ σ.next + 2 := by omega
    by_cases h1 : b = old
    · subst h1; exact .inr ⟨by simp [Emb.set, hb2, gd], ⟨_, hold⟩, t, ht⟩
    · exact .inl (by simp [Emb.set, hb2, go b h1 (by omega) (by omega)])
  · intro x hx hno
    rcases hcase with ⟨_, e2⟩ | ⟨_, e2⟩
    · simp only [e2]
      exact Array.getElem?_setIfInBounds_ne (hno old t ⟨_, hold⟩ ht)
    · simp only [e2]
      simp [Array.getElem?_push, Nat.ne_of_lt hx]
  · intro b s h1 h2 hs'
    simp only [Hp.next_put] at h2
    have hb : b = σ.next + 2 := by
      by_cases h3 : b = σ.next + 2
      · exact h3
      · simp only [Emb.set, h3, if_false] at hs'
        by_cases h4 : b = σ.next
        · subst h4; rw [g0] at hs'; cases hs'
        · have h5 : b = σ.next + 1 := by omega
          subst h5; rw [g1] at hs'; cases hs'
    subst hb
    simp [Emb.set] at hs'
    subst hs'
    rcases hcase with ⟨e1, _⟩ | ⟨e1, _⟩
    · exact .inr ⟨old, t, ⟨_, hold⟩, ht, e1.symm⟩
    · exact .inl (by simp only; omega)
  · intro b hb ⟨q, hq⟩
    rw [hget, if_neg (by omega)] at hq
    split at hq
    · cases hq
    · exact ⟨q, hq⟩
  · simp [Emb.set, g0]

variable [TabOk P]

theorem isByte_ok (hn : Named P ι) {v v' : Value} (h : isByte P v = true) (k : VRel ι v v') : ∃ c : UInt8, v' = byteV c := by
  unfold isByte at h
  split at h
  · rename_i n
    have : n < 256 := by simpa using h
    cases k
    exact ⟨UInt8.ofNat n, by simp [byteV]; omega⟩
  · rename_i b
    exact TabOk.byte hn h k
  · cases h

theorem bytes_den (hn : Named P ι) {vs vs' : List Value} (k : LRel (VRel ι) vs vs') (h : vs.all (isByte P) = true) : ∃ bs : List UInt8, vs' = bs.map byteV ∧ CDen ι vs bs ∧ bs.length = vs.length := by
  induction k with
  | nil => exact ⟨[], rfl, .nil, rfl⟩
  | cons hv _ ih =>
    simp only [List.all_cons, Bool.and_eq_true] at h
    obtain ⟨c, rfl⟩ := isByte_ok hn h.1 hv
    obtain ⟨bs, rfl, h2, h3⟩ := ih h.2
    exact ⟨c :: bs, rfl, .cons hv (.byte c) (by simp) h2, by simp [h3]⟩

theorem firstCells_str (size n : Nat) (s : ByteArray) : Builtin.firstCells size n (.string s) = Pure.pure ((s.data.toList.take n).map byteV).toArray := by
  simp only [Builtin.firstCells]
  congr 1
  apply Array.toList_inj.1
  simp [ByteArray.extract, ByteArray.copySlice]
  rfl

theorem pieces_ok (hr : Rel P ι σ w) {v v' : Value} (hv : VRel ι v v') {new : List Value} (h : pieces P σ v = .ok new) :
    ∃ bs : List UInt8, CDen ι new bs ∧ bs.length ≤ 1048576 ∧ (∀ w0 : World, w0.heap = w.heap → (Builtin.lenOf v').run P w0 = .ok bs.length w0) ∧ ∀ w0 : World, w0.heap = w.heap → (Builtin.firstCells 1 bs.length v').run P w0 = .ok (bs.map byteV).toArray w0 := by
  have str : ∀ {x : Value} {s : ByteArray}, VRel ι x (.string s) → s.size ≤ 1048576 → new = [x] → v' = .string s → ∃ bs : List UInt8, CDen ι new bs ∧ bs.length ≤ 1048576 ∧ (∀ w0 : World, w0.heap = w.heap → (Builtin.lenOf v').run P w0 = .ok bs.length w0) ∧
      ∀ w0 : World, w0.heap = w.heap → (Builtin.firstCells 1 bs.length v').run P w0 = .ok (bs.map byteV).toArray w0 := by
    intro x s hx hs e1 e2
    subst e1 e2
    have hl : s.data.toList.length = s.size := by simp
    refine ⟨s.data.toList, ?_, by rw [hl]; exact hs, fun w0 _ => ?_, fun w0 _ => ?_⟩
    · have := CDen.cons hx (.text s) (by rw [hl]; exact hs) .nil
      simpa using this
    · rw [hl]; rfl
    · rw [firstCells_str, List.take_length]; rfl
  unfold pieces at h
  split at h
  · rename_i s
    obtain ⟨h1, h⟩ := sure_ok.1 h
    cases h
    cases hv
    exact str (.string s) (by simpa using h1) rfl rfl
  · rename_i b
    obtain ⟨h1, h⟩ := sure_ok.1 h
    cases h
    obtain ⟨s, rfl, hs⟩ := TabOk.short hr.named h1 hv
    exact str hv hs rfl rfl
  · rename_i a l c
    obtain ⟨vs, h1, h⟩ := Res.bind_ok.1 h
    obtain ⟨h2, h⟩ := sure_ok.1 h
    cases h
    simp only [Bool.and_eq_true] at h2
    cases hv with
    | @sl _ a' _ _ c' ha hcr =>
    obtain ⟨l', d1, d2, d3⟩ := cellsAt_ok hr ha h1
    obtain ⟨bs, rfl, f2, f3⟩ := bytes_den hr.named d1 h2.1
    have hb : bs.length = l + 1 := by simpa using d2
    refine ⟨bs, f2, by rw [hb]; simpa using h2.2, fun w0 _ => by rw [hb]; rfl, fun w0 hw0 => ?_⟩
    have := run_loadCells_list (P := P) (w := w0) a' (bs.map byteV) (fun j v hj => by
      have := d3 j v hj
      simpa [World.cell?, hw0] using this)
    simpa [Builtin.firstCells, hb] using this
  · cases h

theorem appendT_did (hr : Rel P ι σ w) (hf : Fresh ι σ.next σ'.next) (he : ERel ι fr ρ) {c : Call} {s x : Operand} (hop : o.op = .call c) (hc : c.callee = .builtin .append) (ha : c.args.toList = [s, x]) {v : Value} (h : appendT P fr σ s x c.argTypes = .ok (v, σ')) :
    Did P ι σ w σ' v ((execOp ρ o).run P w) := by
  obtain ⟨_, hex⟩ := exec_builtin (ρ := ρ) hop hc
  unfold appendT at h
  split at h
  · rename_i st xt h0 h1
    split at h
    · cases h
    · cases h
    · rename_i d hnint hux
      have hd : ∀ k, d ≠ .int k := fun k e => hnint k e
      obtain ⟨e, hel, h⟩ := Res.bind_ok.1 h
      obtain ⟨size, hsz, h⟩ := Res.bind_ok.1 h
      obtain ⟨bytes, hby, h⟩ := Res.bind_ok.1 h
      obtain ⟨z, hz, h⟩ := Res.bind_ok.1 h
      obtain ⟨hone, h5⟩ := sure_ok.1 h
      clear h
      simp only [Bool.and_eq_true, Nat.beq_eq] at hone
      obtain ⟨⟨hs1, hb1⟩, hzc⟩ := hone
      subst hs1 hb1
      have h := h5
      clear h5
      have hu := elemT_ok hel
      obtain ⟨i, hi, hib⟩ : ∃ i, P.info? e = some i ∧ i.bytes = 1 := by
        have := need_ok.1 hby
        cases hi : P.info? e with
        | none => simp [hi] at this
        | some i => simp [hi] at this; exact ⟨i, rfl, this⟩
      have hisz : i.size = 1 := by
        obtain ⟨i', h3, h4⟩ := info_of hsz
        rw [hi] at h3; cases h3; exact h4
      obtain ⟨new, hnew, h⟩ := Res.bind_ok.1 h
      obtain ⟨nb, n1, n2, n3, n4⟩ := pieces_ok hr (he x) hnew
      -- what is alike in both
      have fin : ∀ {old : Nat} {ob : Ob} {t : Slot} {content : List Value} {bs : List UInt8} {c1 : Array Value} {cap : Nat} {σ2 : Hp} {u : Value}, σ.get old = some ob → ι old = .live t → w.heap[t.x]? = some (.cells c1 e (0, 0)) →
          ρ s = .slice (some ⟨t.x, 0, none⟩) bs.length cap → CDen ι content bs → 0 < bs.length → bs.length ≤ cap → cap ≤ c1.size → (∀ (j : Nat) b, bs[j]? = some b → c1[j]? = some (byteV b)) → bs.length ≤ 1000 * 1048576 →
          chunked σ old e (content ++ new) = .ok (u, σ2) → v = u → σ' = σ2 → Did P ι σ w σ' v ((execOp ρ o).run P w) := by
        intro old ob t content bs c1 cap σ2 u p1 p2 p3 p4 p5 p6 p7 p8 p9 p10 p11 p12 p13
        subst p12 p13
        unfold chunked at p11
        obtain ⟨_, p14⟩ := sure_ok.1 p11
        clear p11
        cases p14
        obtain ⟨dr, x2, c2, cap2, h', r1, r2, r3, r4, r5⟩ := chunk_append (P := P) (ty := o.type) (bs := bs) (new := nb) h0 h1 hu hux hd hsz hi hib hz hzc p3 rfl p7 p8 p6 p9 (by omega) n3 n4
        obtain ⟨ι', k1, k2, k3⟩ := chunk_rel hr hf p1 p2 (dr := dr) r2 hi hisz hib (p5.append n1) (by simp; omega) (by simp; omega) r4 r5
        refine Did.val ?_ k1 k2 k3
        rw [hex, map_list ha]
        simp only [List.map_cons, List.map_nil, p4]
        have e5 : bs.length + nb.length = (bs ++ nb).length := by simp
        rw [e5] at r1
        exact run_value r1
      split at h
      · rename_i a l cp hs
        split at h
        · rename_i m e' hb
          obtain ⟨old, hold, h⟩ := Res.bind_ok.1 h
          obtain ⟨hk, h⟩ := sure_ok.1 h
          simp only [Bool.and_eq_true, Nat.beq_eq, Option.isNone_iff_eq_none, Nat.ble_eq] at hk
          obtain ⟨⟨⟨⟨⟨⟨hoff, hspot⟩, hcm⟩, hee⟩, hall⟩, hlc⟩, hl1000⟩ := hk
          subst hee
          have hs' := he s
          rw [hs] at hs'
          generalize hρ : ρ s = u at hs'
          cases hs' with
          | @sl _ a' _ _ c' har hcr =>
          obtain ⟨t, o', ht, hae, ho', hor⟩ := hr.block har hb
          rw [hspot, hoff] at hae
          cases hor with
          | @cells _ _ _ _ _ _ c1 hg hcells =>
          obtain ⟨l', d1, d2, d3⟩ := cellsAt_ok hr har hold
          obtain ⟨bs, rfl, f2, f3⟩ := bytes_den hr.named d1 hall
          have hbl : bs.length = l + 1 := by simpa using d2
          have hc1 : l + 1 ≤ c' ∧ c' ≤ c1.size := by
            unfold CRel at hcr
            rw [ht] at hcr
            rcases hg with ⟨_, h5, _⟩ | ⟨csz, esz, i', hg', _, h5, h6, h7, h8, _⟩
            · cases h5
            · rw [hi] at h7; cases h7
              rcases hcr with hcr | ⟨csz', esz', hg2, h9, h10, h11⟩
              · omega
              · rw [hg'] at hg2; cases hg2
                have : esz = 1 := by omega
                subst this
                omega
          subst hae
          refine fin hb ht ho' (by rw [hρ, hbl]) f2 (by omega) (by omega) hc1.2 (fun j b hj => ?_) (by omega) h rfl rfl
          have := d3 j (byteV b) (by simp [hj])
          have ha2 : (⟨t.x, 0, none⟩ : Addr).add j = ⟨t.x, j, none⟩ := by
            unfold Addr.add
            split
            · rename_i h5; subst h5; rfl
            · simp
          rw [ha2] at this
          simpa [World.cell?, ho'] using this
        · cases h
      · rename_i n hs
        split at h
        · rename_i n' e' content hb
          obtain ⟨hk, h⟩ := sure_ok.1 h
          simp only [Bool.and_eq_true, Nat.beq_eq, Nat.ble_eq] at hk
          obtain ⟨⟨rfl, rfl⟩, hlen⟩ := hk
          obtain ⟨t, ht, o', ho', hor⟩ := hr.live _ _ hb
          cases hor with
          | @chunks _ _ c1 _ cap bs i' q1 q2 q3 q4 q5 q6 q7 q8 q9 q10 =>
          have hs' := he s
          rw [hs] at hs'
          have hρ : ρ s = .slice (some ⟨t.x, 0, none⟩) bs.length cap := by
            generalize hρ : ρ s = u at hs'
            generalize hq : Value.chan (some n') = r at hs'
            cases hs' with
            | sym b hb' =>
              cases hq
              have := hb'.1
              rw [q2] at this
              cases this; rfl
            | _ => cases hq
          refine fin hb ht ho' hρ q1 q4 q5 q6 q10 ?_ h rfl rfl
          exact Nat.le_trans q1.le (Nat.mul_le_mul_right 1048576 hlen)
        · cases h
      · cases h
  · cases h

/-- The row of a name, its slice and its length. -/
theorem chunk_at (hr : Rel P ι σ w) {n : Nat} {e : TypeId} {content : List Value} (hb : σ.get (n + 2) = some (.chunks n e content)) :
    ∃ (t : Slot) (c' : Array Value) (cap : Nat) (bs : List UInt8), ι (n + 2) = .live t ∧ w.heap[t.x]? = some (.cells c' e (0, 0)) ∧ CDen ι content bs ∧ ι n = .val (.slice (some ⟨t.x, 0, none⟩) bs.length cap) ∧ ι (n + 1) = .val (.int .i64 (Int.ofNat bs.length)) ∧
      0 < bs.length ∧ bs.length ≤ cap ∧ cap ≤ c'.size ∧ ∀ (j : Nat) b, bs[j]? = some b → c'[j]? = some (byteV b) := by
  obtain ⟨t, ht, o', ho', hor⟩ := hr.live _ _ hb
  cases hor with
  | @chunks _ _ c1 _ cap bs i' q1 q2 q3 q4 q5 q6 q7 q8 q9 q10 => exact ⟨t, c1, cap, bs, ht, ho', q1, q2, q3, q4, q5, q6, q10⟩

theorem VRel.chan_eq {n : Nat} {u v : Value} (hn : ι n = .val u) (h : VRel ι (.chan (some n)) v) : v = u := by
  generalize hq : Value.chan (some n) = r at h
  cases h with
  | sym b hb =>
    cases hq
    have := hb.1
    rw [hn] at this
    cases this; rfl
  | _ => cases hq

theorem lenT_did (hr : Rel P ι σ w) (he : ERel ι fr ρ) {c : Call} {x : Operand} (hop : o.op = .call c) (hc : c.callee = .builtin .len) (ha : c.args.toList = [x]) {v : Value} (h : lenT P fr σ x c.argTypes = .ok (v, σ')) :
    Did P ι σ w σ' v ((execOp ρ o).run P w) := by
  obtain ⟨_, hex⟩ := exec_builtin (ρ := ρ) hop hc
  unfold lenT at h
  split at h
  · rename_i e n hu hx
    obtain ⟨t, ht, hu⟩ := Option.bind_eq_some_iff.1 hu
    split at h
    · rename_i n' e' content hb
      obtain ⟨hk, h⟩ := sure_ok.1 h
      simp only [Nat.beq_eq] at hk
      subst hk
      cases h
      obtain ⟨t', c', cap, bs, q1, q2, q3, q4, q5, q6, q7, q8, q9⟩ := chunk_at hr hb
      have hx' := he x
      rw [hx] at hx'
      have hρ := hx'.chan_eq q4
      refine Did.quiet hr (v' := .int .i64 (Int.ofNat bs.length)) ?_ (.sym _ ⟨q5, rfl⟩)
      rw [hex, map_list ha]
      simp only [List.map_cons, List.map_nil, hρ]
      refine run_value ?_
      show (Builtin.len_ c.argTypes o.type #[.slice (some ⟨t'.x, 0, none⟩) bs.length cap]).run P w = _
      unfold Builtin.len_
      simp only [ht, List.getElem?_toArray, List.getElem?_cons_zero, Sem.run_bind, run_under hu, Result.andThen]
      rfl
    · cases h
  · cases h

theorem dataT_did (hr : Rel P ι σ w) (he : ERel ι fr ρ) {c : Call} {x : Operand} (hop : o.op = .call c) (hc : c.callee = .builtin .unsafeSliceData) (ha : c.args.toList = [x]) {v : Value} (h : dataT fr σ x = .ok (v, σ')) :
    Did P ι σ w σ' v ((execOp ρ o).run P w) := by
  obtain ⟨_, hex⟩ := exec_builtin (ρ := ρ) hop hc
  unfold dataT at h
  split at h
  · rename_i n hx
    split at h
    · rename_i n' e' content hb
      obtain ⟨hk, h⟩ := sure_ok.1 h
      simp only [Nat.beq_eq] at hk
      subst hk
      cases h
      obtain ⟨t', c', cap, bs, q1, q2, q3, q4, q5, q6, q7, q8, q9⟩ := chunk_at hr hb
      have hx' := he x
      rw [hx] at hx'
      have hρ := hx'.chan_eq q4
      refine Did.quiet hr (v' := .pointer (some ⟨t'.x, 0, none⟩)) ?_ (.ptr (by simp [ARel, q1]))
      rw [hex, map_list ha]
      simp only [List.map_cons, List.map_nil, hρ]
      refine run_value ?_
      have hdef : Builtin.unsafeSliceData_ c.argTypes o.type #[.slice (some ⟨t'.x, 0, none⟩) bs.length cap] = (do
        if cap ≠ 0 then Pure.pure (.pointer (some ⟨t'.x, 0, none⟩))
        else if (← viewAt t'.x).isSome then Pure.pure (.pointer (some ⟨t'.x, 0, none⟩))
        else Pure.pure (.pointer (some ⟨← newObj (.view ⟨t'.x, 0, none⟩ (← elemOf o.type)), 0, none⟩))) := rfl
      show (Builtin.unsafeSliceData_ c.argTypes o.type #[.slice (some ⟨t'.x, 0, none⟩) bs.length cap]).run P w = _
      rw [hdef]
      have : cap ≠ 0 := by omega
      simp [this]
    · cases h
  · cases h

/-- A block that nobody knows is written. -/
theorem Rel.unseen (hr : Rel P ι σ w) {x : Nat} (hno : ∀ b s, ι b = .live s → s.x ≠ x) (o' : Obj) : Rel P ι σ { w with heap := w.heap.setIfInBounds x o' } := by
  refine ⟨fun b o h => ?_, hr.inj, fun b s h => ?_, hr.glob, hr.gborn, hr.base, hr.ids, hr.names⟩
  · obtain ⟨s, h1, q, h2, h3⟩ := hr.live b o h
    exact ⟨s, h1, q, by simp only; rw [Array.getElem?_setIfInBounds_ne (Ne.symm (hno b s h1))]; exact h2, h3⟩
  · simpa using hr.bound b s h

theorem string_did (hr : Rel P ι σ w) {c : Call} {p n : Operand} (hop : o.op = .call c) (hc : c.callee = .builtin .unsafeString) (ha : c.args.toList = [p, n]) {b : Nat} {ob : Ob} {s : Slot} {c' : Array Value} {e' t : TypeId} {bs : List UInt8} {v : Value}
    (hb : σ.get b = some ob) (hs : ι b = .live s) (ho' : w.heap[s.x]? = some (.cells c' e' (0, 0))) (ht : c.argTypes[0]? = some t) (hu : P.underlying t = some (.pointer e')) (hcell : P.cellsOf e' = 1) (hρp : ρ p = .pointer (some ⟨s.x, 0, none⟩)) (hρn : ρ n = .int .i64 (Int.ofNat bs.length))
    (q4 : 0 < bs.length) (q5 : bs.length ≤ c'.size) (q10 : ∀ (j : Nat) b, bs[j]? = some b → c'[j]? = some (byteV b)) (hbound : bs.length ≤ 1000 * 1048576) (hv : VRel ι v (.string ⟨bs.toArray⟩)) : Did P ι σ w (σ.kill b) v ((execOp ρ o).run P w) := by
  obtain ⟨_, hex⟩ := exec_builtin (ρ := ρ) hop hc
  obtain ⟨k1, k2⟩ := hr.kill hb
  have hno : ∀ c s', (ι.set b .dead) c = .live s' → s'.x ≠ s.x := by
    intro c s' hc' hx
    by_cases hcb : c = b
    · simp [Emb.set, hcb] at hc'
    · simp [Emb.set, hcb] at hc'
      exact hcb (hr.inj c b s' s hc' hs hx)
  have r1 := k1.unseen hno (.cells c' e' (0, bs.length))
  refine Did.val (v' := .string ⟨bs.toArray⟩) ?_ r1 ?_ (hv.mono (k2.le (fun b h1 h2 => by simp at h2; omega)))
  · rw [hex, map_list ha]
    simp only [List.map_cons, List.map_nil, hρp, hρn]
    refine run_value ?_
    have hdef : Builtin.unsafeString_ c.argTypes o.type #[.pointer (some ⟨s.x, 0, none⟩), .int .i64 (Int.ofNat bs.length)] = (do
        let n ← asInt (.int .i64 (Int.ofNat bs.length))
        let some pt := c.argTypes[0]? | stuck "unsafe.String: no argument types"
        if n < 0 then runtimePanic (.error "unsafe.String: len out of range")
        if n > IntKind.i64.max then unsupported (.unsafePointer "String: a length above the largest int")
        if n = 0 then Pure.pure (.string .empty)
        else if ← variablesAt ⟨s.x, 0, none⟩ (← elemOf pt) n.toNat then do
            let s' ← loadBytes ⟨s.x, 0, none⟩ .empty n.toNat
            freeze ⟨s.x, 0, none⟩ n.toNat
            Pure.pure (.string s')
          else unsupported (.unsafePointer "String: not so many bytes at ptr")) := rfl
    show (Builtin.unsafeString_ c.argTypes o.type #[.pointer (some ⟨s.x, 0, none⟩), .int .i64 (Int.ofNat bs.length)]).run P w = _
    have c1 : ¬ (Int.ofNat bs.length) < 0 := by have := Int.natCast_nonneg bs.length; simp
    have c2 : ¬ (Int.ofNat bs.length) > IntKind.i64.max := by
      have : IntKind.i64.max = 9223372036854775807 := by decide
      rw [this]; simp; omega
    have c3 : ¬ (Int.ofNat bs.length) = 0 := by simp; intro h; rw [h] at q4; simp at q4
    have hvar : (variablesAt ⟨s.x, 0, none⟩ e' bs.length).run P w = .ok true w := by
      simp only [variablesAt, Sem.run_bind, program, Sem.run, Result.andThen, shape, World.shape?, ho']
      rw [hcell, Nat.div_one, liesAt_one hcell _ _ _ (by omega)]
      rfl
    have hel : (elemOf t).run P w = .ok e' w := by simp [elemOf, run_under hu, Result.andThen]
    have hload := run_loadBytes' (P := P) (w := w) (bs.map fun b => (b.toNat : Int)) ⟨s.x, 0, none⟩ .empty (fun j y hj => by
      simp only [List.getElem?_map, Option.map_eq_some_iff] at hj
      obtain ⟨b', hb', rfl⟩ := hj
      have ha2 : (⟨s.x, 0, none⟩ : Addr).add j = ⟨s.x, j, none⟩ := by
        unfold Addr.add
        split
        · rename_i h5; subst h5; rfl
        · simp
      rw [ha2]
      simpa [World.cell?, ho', byteV] using q10 j b' hb')
    rw [List.length_map] at hload
    have hfz : (freeze ⟨s.x, 0, none⟩ bs.length).run P w = .ok () { w with heap := w.heap.setIfInBounds s.x (.cells c' e' (0, bs.length)) } := by
      simp only [freeze, Sem.run]
      rw [freeze_eq ho' (by omega)]
      simp
    have hto : (Int.ofNat bs.length).toNat = bs.length := rfl
    have h8 : ∀ l : List UInt8, (l.map fun b => (b.toNat : Int)).map (fun n => UInt8.ofNat n.toNat) = l := by
      intro l
      induction l with
      | nil => rfl
      | cons a l ih => simp only [List.map_cons, ih]; simp
    rw [hdef]
    simp only [asInt, asIntOf, Sem.run_bind, Sem.run_pure, Result.andThen, ht, c1, c2, c3, if_false, hel, hto, hvar, if_true, hload, hfz, h8]
    congr 2
    simp
  · refine ⟨by simp, by simp, ?_, ?_, ?_, ?_, rfl, rfl, rfl⟩
    · intro b' hb'
      by_cases hbb : b' = b
      · subst hbb; exact .inr ⟨by simp [Emb.set], ⟨_, hb⟩, s, hs⟩
      · exact .inl (by simp [Emb.set, hbb])
    · intro x hx hn
      simp only
      exact Array.getElem?_setIfInBounds_ne (hn b s ⟨_, hb⟩ hs)
    · intro b' s' h1 h2; simp at h2; omega
    · intro b' hb' ⟨q, hq⟩
      rw [Hp.kill, Hp.get_put] at hq
      by_cases hbb : b' = b <;> simp [hbb] at hq
      exact ⟨q, hq⟩

theorem stringT_did (hr : Rel P ι σ w) (he : ERel ι fr ρ) {c : Call} {p n : Operand} (hop : o.op = .call c) (hc : c.callee = .builtin .unsafeString) (ha : c.args.toList = [p, n]) {v : Value} (h : stringT P fr σ p n c.argTypes = .ok (v, σ')) :
    Did P ι σ w σ' v ((execOp ρ o).run P w) := by
  unfold stringT at h
  split at h
  · rename_i e b k hu hp hk
    obtain ⟨t, ht, hu⟩ := Option.bind_eq_some_iff.1 hu
    split at h
    · rename_i n' e' content hb
      obtain ⟨h1, h5⟩ := sure_ok.1 h
      clear h
      simp only [Bool.and_eq_true, Nat.beq_eq, Nat.ble_eq, decide_eq_true_eq] at h1
      obtain ⟨⟨⟨⟨⟨hkn, hee⟩, hlim⟩, hcell⟩, _⟩, _⟩ := h1
      subst hkn hee
      obtain ⟨u, hj, h6⟩ := Res.bind_ok.1 h5
      clear h5
      cases h6
      obtain ⟨s, hs, o', ho', hor⟩ := hr.live _ _ hb
      cases hor with
      | @chunks _ _ c' _ cap bs i' q1 q2 q3 q4 q5 q6 q7 q8 q9 q10 =>
      have hp' := he p
      rw [hp] at hp'
      obtain ⟨a', hρp, har⟩ := hp'.ptr_inv
      have hae : a' = ⟨s.x, 0, none⟩ := by
        unfold ARel at har
        rw [hs] at har
        exact har
      subst hae
      have hk' := he n
      rw [hk] at hk'
      have hρn := hk'.chan_eq q3
      exact string_did hr hop hc ha hb hs ho' ht hu hcell hρp hρn q4 (by omega) q10 (Nat.le_trans q1.le (Nat.mul_le_mul_right 1048576 hlim)) (TabOk.join hr.named (need_ok.1 hj) q1)
    · cases h
  · rename_i e b m hu hp hk
    obtain ⟨t, ht, hu⟩ := Option.bind_eq_some_iff.1 hu
    split at h
    · rename_i cs cn e' opn hb
      obtain ⟨h1, h5⟩ := sure_ok.1 h
      clear h
      simp only [Bool.and_eq_true, Nat.beq_eq, Nat.ble_eq, decide_eq_true_eq] at h1
      obtain ⟨⟨⟨⟨hee, hlim⟩, hcell⟩, _⟩, _⟩ := h1
      subst hee
      obtain ⟨vs, hvs, h6⟩ := Res.bind_ok.1 h5
      clear h5
      obtain ⟨hall, h7⟩ := sure_ok.1 h6
      clear h6
      obtain ⟨u, hj, h8⟩ := Res.bind_ok.1 h7
      clear h7
      cases h8
      have hp' := he p
      rw [hp] at hp'
      obtain ⟨a', hρp, har⟩ := hp'.ptr_inv
      obtain ⟨s, o', hs, hae, ho', hor⟩ := hr.block har hb
      cases hor with
      | @cells _ _ _ _ _ _ c' hg hcells =>
      obtain ⟨l', d1, d2, d3⟩ := cellsAt_ok hr har hvs
      obtain ⟨bs, rfl, f2, f3⟩ := bytes_den hr.named d1 hall
      have hbl : bs.length = m + 1 := by simpa using d2
      subst hae
      have hbytes : ∀ (j : Nat) b, bs[j]? = some b → c'[j]? = some (byteV b) := by
        intro j b' hj
        have := d3 j (byteV b') (by simp [hj])
        have ha2 : (⟨s.x, 0, none⟩ : Addr).add j = ⟨s.x, j, none⟩ := by
          unfold Addr.add
          split
          · rename_i h5; subst h5; rfl
          · simp
        rw [ha2] at this
        simpa [World.cell?, ho'] using this
      have hle : bs.length ≤ c'.size := by
        have := hbytes (bs.length - 1) bs[bs.length - 1] (List.getElem?_eq_getElem (by omega))
        have := (Array.getElem?_eq_some_iff.1 this).1
        omega
      have hk' := he n
      rw [hk] at hk'
      have hρn := hk'.int_eq
      exact string_did hr hop hc ha hb hs ho' ht hu hcell hρp (by rw [hρn, hbl]) (by omega) hle hbytes (by omega) (TabOk.join hr.named (need_ok.1 hj) f2)
    · cases h
  · cases h

end Go.Cx

/-
  CxFa: names: what is asked of a table of names; each operation that is no call of a function: 'plain_did'.
-/

namespace Go.Cx

variable {P : Program} [Tab P] {ι : Emb} {σ σ' : Hp} {w : World} {fr : Fr} {ρ : Operand → Value} {o : Oper}

theorem LRel.map_ev (he : ERel ι fr ρ) (l : List Operand) : LRel (VRel ι) (l.map (ev fr)) (l.map ρ) := LRel.map_same _ _ _ fun x _ => he x

theorem firstCells_text (size n : Nat) (s : ByteArray) : Builtin.firstCells size n (.string s) = Pure.pure ((s.data.toList.take n).map byteV).toArray := by
  simp only [Builtin.firstCells]
  congr 1
  apply Array.toList_inj.1
  simp [ByteArray.extract, ByteArray.copySlice]
  rfl

variable [TabOk P]

theorem copyT_did (hr : Rel P ι σ w) (he : ERel ι fr ρ) {c : Call} {d s : Operand} (hop : o.op = .call c) (hc : c.callee = .builtin .copy) (ha : c.args.toList = [d, s]) {v : Value} (h : copyT P fr σ d s c.argTypes = .ok (v, σ')) :
    Did P ι σ w σ' v ((execOp ρ o).run P w) := by
  unfold copyT at h
  split at h
  · rename_i t a l cap b h0 hd hs
    obtain ⟨e, hel, h⟩ := Res.bind_ok.1 h
    obtain ⟨size, hsz, h⟩ := Res.bind_ok.1 h
    obtain ⟨cs, hcs, h⟩ := Res.bind_ok.1 h
    obtain ⟨h1, h⟩ := sure_ok.1 h
    obtain ⟨σ1, h3, h⟩ := Res.bind_ok.1 h
    cases h
    have h1 : size = 1 := by simpa using h1
    subst h1
    have hd' := he d
    have hs' := he s
    rw [hd] at hd'
    rw [hs] at hs'
    obtain ⟨q, hq, hl⟩ := TabOk.text hr.named (need_ok.1 hcs) hs'
    have hu := elemT_ok hel
    generalize hdd : ρ d = dd at hd'
    cases hd' with
    | @sl _ a' _ _ c' har hcr =>
    have hlen : cs.length = q.size := by have := hl.length; simpa using this
    have htake : LRel (VRel ι) (cs.take (Nat.min cs.length l)) ((q.data.toList.map byteV).take (Nat.min cs.length l)) := hl.take _
    obtain ⟨w', h4, h5, h6, h7⟩ := setCells_ok hr har htake h3
    refine Did.val (v' := goInt (Nat.min cs.length l)) (w' := w') ?_ h5 h6 (.int _ _)
    obtain ⟨_, hex⟩ := exec_builtin (ρ := ρ) hop hc
    have hrun : (Builtin.copy_ c.argTypes o.type #[.slice (some a') l c', .string q]).run P w = .ok (goInt (Nat.min cs.length l)) w' := by
      unfold Builtin.copy_
      rw [hlen] at h4 ⊢
      have hlq : (Builtin.lenOf (.string q)).run P w = .ok q.size w := rfl
      simp [h0, run_under hu, Result.andThen, run_sizeOf' hsz w, firstCells_text, hlq]
      rw [h4]
    rw [hex, map_list ha]
    simp only [List.map_cons, List.map_nil, hdd, hq]
    exact run_value hrun
  · cases h

theorem lookupT_did (hr : Rel P ι σ w) (he : ERel ι fr ρ) {t : TypeId} {m k : Operand} {ok : Bool} (hop : o.op = .lookup t m k ok) {v : Value} (h : lookupT P fr σ t m k ok = .ok (v, σ')) :
    Did P ι σ w σ' v ((execOp ρ o).run P w) := by
  unfold lookupT at h
  split at h
  · rename_i kt et r hu hm
    obtain ⟨x, h1, h⟩ := Res.bind_ok.1 h
    obtain ⟨h2, h⟩ := sure_ok.1 h
    obtain ⟨z, h3, h⟩ := Res.bind_ok.1 h
    simp only [Bool.and_eq_true, List.all_eq_true] at h2
    obtain ⟨hfl, hap⟩ := h2
    have hm' := he m
    rw [hm] at hm'
    obtain ⟨r', hr', hb⟩ := hm'.map_inv
    obtain ⟨s, es', hs, rfl, hw, hmr, _⟩ := hr.mapAt hb h1
    obtain ⟨q1, q2⟩ := TabOk.apart hr.named hap (he k)
    have hkeys : es'.toList.map (·.key) = x.1.toList.map (·.key) := by
      apply List.ext_getElem
      · simp [hmr.1]
      · intro i h5 h6
        have h5 : i < es'.size := by simpa using h5
        have h6 : i < x.1.size := by simpa using h6
        simp only [List.getElem_map, Array.getElem_toList]
        exact flat_eq 8 (hfl _ (by simp)) (hmr.2 i _ _ (Array.getElem?_eq_getElem h6) (Array.getElem?_eq_getElem h5)).1
    have hck := prun_run (q1 es'.isEmpty) w
    have hfk := prun_run (q2 es'.toList hkeys) w
    have hget := run_getObj' (P := P) hw (by intro _ _ _ h; cases h)
    have hrun : (Instr.lookup t (ρ m) (ρ k) ok).run P w = .ok (if ok = true then .tuple #[z, .bool false] else z) w := by
      rw [hr']
      unfold Instr.lookup
      simp only [Sem.run_bind, run_under hu, Result.andThen, hget, Sem.run_pure, hck, hfk, run_zero h3 w]
    have hz := zero_rel h3 ι
    have hx : execOp ρ o = (do Pure.pure (Next.value (← Instr.lookup t (ρ m) (ρ k) ok))) := by simp only [execOp, hop]
    rw [hx]
    cases ok with
    | true =>
      cases h
      exact Did.quiet hr (v' := .tuple #[z, .bool false]) (by simp [hrun, Result.andThen]) (VRel.tuple_list (xs := [z, .bool false]) (ys := [z, .bool false]) (.cons hz (.cons (.bool _) .nil)))
    | false =>
      cases h
      exact Did.quiet hr (v' := z) (by simp [hrun, Result.andThen]) hz
  · cases h

theorem extra_did (hr : Rel P ι σ w) (hf : Fresh ι σ.next σ'.next) (he : ERel ι fr ρ) {why : String} {v : Value} (h : extra P fr σ o why = .ok (v, σ')) : Did P ι σ w σ' v ((execOp ρ o).run P w) := by
  unfold extra at h
  split at h
  · rename_i u hu
    cases h
    obtain ⟨v', h1, h2⟩ := TabOk.fact hr.named hu (LRel.map_ev he _)
    exact Did.quiet hr (h1 w) h2
  · split at h
    · rename_i t m k ok hop; exact lookupT_did hr he hop h
    · rename_i c hop
      split at h
      · rename_i d s hc ha; exact copyT_did hr he hop hc ha h
      · rename_i s x hc ha; exact appendT_did hr hf he hop hc ha h
      · rename_i x hc ha; exact lenT_did hr he hop hc ha h
      · rename_i x hc ha; exact dataT_did hr he hop hc ha h
      · rename_i p n hc ha; exact stringT_did hr he hop hc ha h
      · cases h
    · cases h

theorem plain_did (hr : Rel P ι σ w) (hf : Fresh ι σ.next σ'.next) (he : ERel ι fr ρ) {v : Value} (h : plain P fr σ o = .ok (v, σ')) : Did P ι σ w σ' v ((execOp ρ o).run P w) := by
  unfold plain at h
  split at h
  · rename_i r hp
    cases h
    exact plain0_did hr hf he hp
  · exact extra_did hr hf he h

end Go.Cx
