/-
  CxM: operations, fourth part: '==', conversions, maps.
-/
import Derived.Test.YtglglgkaadfhpaaGreatDoorXQ
import Derived.Laws.BytesString
import Derived.Lib.UnsafeStr
set_option linter.all false
namespace Go.Cx
variable {P : Program} [Tab P] {ι : Emb} {σ σ' : Hp} {w : World}

theorem run_under {t : TypeId} {d : TypeDesc} (h : P.underlying t = some d) (w : World) : (underlying t).run P w = .ok d w := run_underlying h w

theorem equal_eq (t : TypeId) (x y : Value) : Op.equal t x y = Op.equalIn (9999 + 1) t x y := rfl

theorem same_ok (hr : Rel P ι σ w) {t : TypeId} {x x' y y' : Value} (hx : VRel ι x x') (hy : VRel ι y y') {b : Bool} (h : same P σ t x y = .ok b) : (Op.equal t x' y').run P w = .ok b w := by
  unfold same at h
  rw [equal_eq]
  unfold Op.equalIn
  split at h
  · rename_i e a c hu
    obtain ⟨n, hn, h⟩ := Res.bind_ok.1 h
    obtain ⟨h1, h⟩ := sure_ok.1 h
    simp only [Bool.and_eq_true, decide_eq_true_eq, Option.isSome_iff_exists] at h1
    obtain ⟨⟨h1, h2⟩, o, ho⟩ := h1
    cases h
    obtain ⟨a', rfl, ha⟩ := hx.ptr_inv
    obtain ⟨c', rfl, hc⟩ := hy.ptr_inv
    obtain ⟨s, o', hs, rfl, -, -⟩ := hr.block ha ho
    unfold ARel at hc
    rw [← h2, hs] at hc
    subst hc
    simp only [Sem.run_bind, run_under hu, Result.andThen, run_sizeOf' hn w, h1, ne_eq, not_false_eq_true, if_true, sameAddr, beq_self_eq_true, Sem.run_pure]
    congr 1
    have : (a = c) ↔ (({ block := s.x, off := a.off, spot := a.spot } : Addr) = { block := s.x, off := c.off, spot := c.spot }) := by
      constructor
      · intro e; rw [e]
      · intro e
        cases a; cases c
        simp at h2 e ⊢
        exact ⟨h2, e⟩
    by_cases hac : a = c
    · simp [hac]
    · rw [decide_eq_false hac]
      exact beq_eq_false_iff_ne.2 fun e => hac (this.2 e)
  · rename_i e a c hn hu
    cases h
    cases hx with
    | pnil => cases hy with
      | pnil => simp [run_under hu, Result.andThen]
      | ptr _ => simp [run_under hu, Result.andThen]
    | ptr _ => cases hy with
      | pnil => simp [run_under hu, Result.andThen]
      | ptr _ => exact (hn _ _ rfl rfl).elim
  · rename_i hu
    cases h
    cases hx
    cases hy <;> simp [run_under hu, Result.andThen]
  · rename_i hn hu
    cases h
    cases hy
    cases hx <;> simp [run_under hu, Result.andThen]
  · rename_i hu
    cases h
    cases hx
    cases hy <;> simp [run_under hu, Result.andThen]
  · rename_i hn hu
    cases h
    cases hy
    cases hx <;> simp [run_under hu, Result.andThen]
  · rename_i hu
    cases h
    cases hx
    cases hy
    simp [run_under hu, Result.andThen]
  · rename_i hu
    cases h
    cases hx
    cases hy
    simp [run_under hu, Result.andThen]
  · cases h

/-! ### Bytes -/
theorem bytesIn_ok : ∀ {l l' : List Value} {bs : List UInt8}, LRel (VRel ι) l l' → bytesIn l = .ok bs → ∃ ns : List Int, l' = ns.map (Value.int .u8) ∧ bs = ns.map fun n => UInt8.ofNat n.toNat
  | _, _, bs, .nil, h => by simp [bytesIn] at h; exact ⟨[], rfl, by simp [h]⟩
  | _, _, bs, .cons (x := x) hx t, h => by
    unfold bytesIn at h
    split at h
    · rename_i heq; cases heq
    · rename_i n r heq
      simp at heq
      obtain ⟨rfl, rfl⟩ := heq
      obtain ⟨l, h1, h2⟩ := Res.bind_ok.1 h
      cases h2
      cases hx
      obtain ⟨ns, e1, e2⟩ := bytesIn_ok t h1
      exact ⟨n :: ns, by simp [e1], by simp [e2]⟩
    · cases h

theorem push_all (ns : List Int) : ∀ (r : ByteArray), (ns.foldl (fun r n => r.push (UInt8.ofNat n.toNat)) r) = ⟨r.data ++ (ns.map fun n => UInt8.ofNat n.toNat).toArray⟩ := by
  induction ns with
  | nil => intro r; cases r; simp
  | cons n ns ih => intro r; simp only [List.foldl_cons]; rw [ih]; cases r; simp [ByteArray.push]

theorem b2s_ok (hr : Rel P ι σ w) {v v' : Value} (hv : VRel ι v v') {l : List UInt8} (h : bytesOf σ v = .ok l) (hs : ∀ s, v ≠ .string s) : (Conv.bytesToString v').run P w = .ok (.string ⟨l.toArray⟩) w := by
  unfold bytesOf at h
  split at h
  · exact absurd rfl (hs _)
  · cases h; cases hv; simp [Conv.bytesToString]; rfl
  · cases h
    cases hv
    rename_i a _ a' c' ha hc
    exact run_bytesToString (P := P) w a' 0 c' [] (by simp [loadCells, loadCellsFrom])
  · rename_i a n c _
    obtain ⟨vs, h1, h2⟩ := Res.bind_ok.1 h
    cases hv with
    | sl ha hc =>
      rename_i a' c'
      obtain ⟨l', h3, h4, h5⟩ := cellsAt_ok hr ha h1
      obtain ⟨ns, e1, e2⟩ := bytesIn_ok h3 h2
      have hl := run_loadCells_list (P := P) (w := w) a' l' h5
      rw [h4, e1] at hl
      rw [run_bytesToString w a' n c' ns hl, push_all, ← e2]
      congr 3
      simp
  · cases h

/-! ### Entries of a map -/
inductive KRel : List MapEntry → List MapEntry → Prop where
  | nil : KRel [] []
  | cons {e e' l l'} (h : e'.key = e.key) (t : KRel l l') : KRel (e :: l) (e' :: l')

theorem findNow_rel {d : TypeDesc} {k : Value} : ∀ {l l' : List MapEntry} (_ : KRel l l') (i : Nat),
    (Instr.findNow d k l i = none → Instr.findNow d k l' i = none) ∧
    (∀ r, Instr.findNow d k l i = some r → ∃ r', Instr.findNow d k l' i = some r' ∧ r'.map (·.1) = r.map (·.1) ∧ ∀ j v, r' = some (j, v) → i ≤ j ∧ ∃ e, l'[j - i]? = some e ∧ e.val = v)
  | _, _, .nil, i => by simp [Instr.findNow]
  | _, _, .cons (e := e) (e' := e') he t, i => by
    simp only [Instr.findNow, he]
    obtain ⟨ih1, ih2⟩ := findNow_rel t (i + 1)
    cases Instr.sameNow d k e.key with
    | none => simp
    | some b =>
      cases b with
      | true =>
        simp
      | false =>
        refine ⟨ih1, fun r hr => ?_⟩
        obtain ⟨r', h1, h2, h3⟩ := ih2 r hr
        refine ⟨r', h1, h2, fun j v hj => ?_⟩
        obtain ⟨h4, e0, h5, h6⟩ := h3 j v hj
        refine ⟨by omega, e0, ?_, h6⟩
        have : j - i = (j - (i + 1)) + 1 := by omega
        rw [this]; simpa using h5

theorem findAsking_rel {kt : TypeId} {k : Value} : ∀ {l l' : List MapEntry} (_ : KRel l l') (i : Nat) r, prun P (Instr.findAsking kt k l i) = some r →
    ∃ r', prun P (Instr.findAsking kt k l' i) = some r' ∧ r'.map (·.1) = r.map (·.1) ∧ ∀ j v, r' = some (j, v) → i ≤ j ∧ ∃ e, l'[j - i]? = some e ∧ e.val = v
  | _, _, .nil, i, r, h => by simp [Instr.findAsking] at h; subst h; exact ⟨none, by simp [Instr.findAsking], rfl, fun _ _ h => by cases h⟩
  | _, _, .cons (e := e) (e' := e') he t, i, r, h => by
    simp only [Instr.findAsking, he, prun_bind] at h ⊢
    cases hb : prun P (Op.equal kt k e.key) with
    | none => simp [hb] at h
    | some b =>
      simp only [hb, Option.bind_some] at h ⊢
      cases b with
      | true =>
        simp only [if_true, prun_pure, Option.some.injEq] at h ⊢
        subst h
        exact ⟨_, rfl, rfl, fun j v hj => by cases hj; simp⟩
      | false =>
        simp only [Bool.false_eq_true, if_false] at h ⊢
        obtain ⟨r', h1, h2, h3⟩ := findAsking_rel t (i + 1) r h
        refine ⟨r', h1, h2, fun j v hj => ?_⟩
        obtain ⟨h4, e0, h5, h6⟩ := h3 j v hj
        refine ⟨by omega, e0, ?_, h6⟩
        have : j - i = (j - (i + 1)) + 1 := by omega
        rw [this]; simpa using h5

theorem findKey_rel {kt : TypeId} {k : Value} {l l' : List MapEntry} (hk : KRel l l') {r : Option (Nat × Value)} (h : prun P (Instr.findKey kt k l) = some r) :
    ∃ r', prun P (Instr.findKey kt k l') = some r' ∧ r'.map (·.1) = r.map (·.1) ∧ ∀ j v, r' = some (j, v) → ∃ e, l'[j]? = some e ∧ e.val = v := by
  unfold Instr.findKey at h ⊢
  simp only [prun_bind, prun_underlying] at h ⊢
  cases hu : P.underlying kt with
  | none => simp [hu] at h
  | some d =>
    simp only [hu, Option.bind_some] at h ⊢
    obtain ⟨h1, h2⟩ := findNow_rel (d := d) (k := k) hk 0
    cases hn : Instr.findNow d k l 0 with
    | none =>
      simp only [hn] at h
      simp only [h1 hn]
      obtain ⟨r', h3, h4, h5⟩ := findAsking_rel hk 0 r h
      exact ⟨r', h3, h4, fun j v hj => by obtain ⟨_, e, a, b⟩ := h5 j v hj; exact ⟨e, by simpa using a, b⟩⟩
    | some q =>
      simp only [hn, prun_pure, Option.some.injEq] at h
      subst h
      obtain ⟨r', h3, h4, h5⟩ := h2 q hn
      simp only [h3, prun_pure]
      exact ⟨r', rfl, h4, fun j v hj => by obtain ⟨_, e, a, b⟩ := h5 j v hj; exact ⟨e, by simpa using a, b⟩⟩

/-- Entries that stand for others. -/
def MRel (ι : Emb) (es es' : Array MapEntry) : Prop := es.size = es'.size ∧ ∀ (i : Nat) x y, es[i]? = some x → es'[i]? = some y → VRel ι x.key y.key ∧ VRel ι x.val y.val ∧ y.born = x.born

theorem krel_of {es es' : List MapEntry} (hl : es.length = es'.length) (h : ∀ (i : Nat) x y, es[i]? = some x → es'[i]? = some y → y.key = x.key) : KRel (es.map fun e => { e with val := Cx.unk }) es' := by
  induction es generalizing es' with
  | nil => cases es' with
    | nil => exact .nil
    | cons _ _ => simp at hl
  | cons e es ih => cases es' with
    | nil => simp at hl
    | cons e' es' =>
      refine .cons (h 0 e e' rfl rfl) (ih (by simpa using hl) fun i x y hx hy => h (i + 1) x y (by simpa using hx) (by simpa using hy))

theorem findIdx_ok {kt : TypeId} {k k' : Value} {es es' : Array MapEntry} (hm : MRel ι es es') (hk : VRel ι k k') {i : Option Nat} (h : findIdx P kt k es.toList = .ok i) :
    k' = k ∧ (∀ (j : Nat) (x y : MapEntry), es[j]? = some x → es'[j]? = some y → y.key = x.key) ∧
    ∃ r, prun P (Instr.findKey kt k' es'.toList) = some r ∧ r.map (·.1) = i ∧ ∀ j v, r = some (j, v) → ∃ e, es'[j]? = some e ∧ e.val = v := by
  unfold findIdx at h
  obtain ⟨h1, h⟩ := sure_ok.1 h
  obtain ⟨r, h2, h⟩ := Res.bind_ok.1 h
  cases h
  simp only [Bool.and_eq_true, List.all_eq_true] at h1
  obtain ⟨h1, h3⟩ := h1
  have hkk := flat_eq 8 h1 hk
  subst hkk
  have hkeys : ∀ (j : Nat) x y, es[j]? = some x → es'[j]? = some y → y.key = x.key := fun j x y hx hy =>
    flat_eq 8 (h3 x (by simpa using Array.mem_of_getElem? hx)) (hm.2 j x y hx hy).1
  obtain ⟨r', h4, h5, h6⟩ := findKey_rel (P := P) (kt := kt) (k := k') (krel_of (es := es.toList) (es' := es'.toList) (by simpa using hm.1) fun j x y hx hy => hkeys j x y (by simpa using hx) (by simpa using hy)) (need_ok.1 h2)
  exact ⟨rfl, hkeys, r', h4, h5, fun j v hj => by obtain ⟨e, a, b⟩ := h6 j v hj; exact ⟨e, by simpa using a, b⟩⟩

theorem Rel.mapAt (hr : Rel P ι σ w) {r r' : Nat} (hb : BRel ι r r') {x : Array MapEntry × Nat} (h : mapAt σ r = .ok x) :
    ∃ s es', ι r = .live s ∧ r' = s.x ∧ w.heap[s.x]? = some (.map es' x.2) ∧ MRel ι x.1 es' ∧ σ.get r = some (.map x.1 x.2) := by
  unfold Cx.mapAt at h
  split at h
  · rename_i es clock hg
    cases h
    obtain ⟨s, hs, o', ho', hor⟩ := hr.live _ _ hg
    unfold BRel at hb
    rw [hs] at hb
    cases hor with
    | map hsz hm => exact ⟨s, _, hs, hb, ho', ⟨hsz, hm⟩, hg⟩
  · cases h

theorem run_getObj' {r : Nat} {o : Obj} (h : w.heap[r]? = some o) (hc : ∀ c e f, o ≠ .cells c e f) : (getObj r).run P w = .ok o w := by
  cases o <;> first | exact absurd rfl (hc _ _ _) | simp [getObj, Sem.run, h]

theorem run_setObj' {r : Nat} {o o1 : Obj} (h : w.heap[r]? = some o) (hc : ∀ c e f, o ≠ .cells c e f) : (setObj r o1).run P w = .ok () { w with heap := w.heap.setIfInBounds r o1 } := by
  cases o <;> first | exact absurd rfl (hc _ _ _) | simp [setObj, Sem.run, h]

theorem VRel.map_inv {r : Nat} {v' : Value} (h : VRel ι (.map (some r)) v') : ∃ r', v' = .map (some r') ∧ BRel ι r r' := by
  cases h with
  | map hb => exact ⟨_, rfl, hb⟩

theorem lookup_ok (hr : Rel P ι σ w) {t : TypeId} {m m' k k' v : Value} {ok : Bool} (hm : VRel ι m m') (hk : VRel ι k k') (h : lookup P σ t m k ok = .ok v) :
    ∃ v', (Instr.lookup t m' k' ok).run P w = .ok v' w ∧ VRel ι v v' := by
  unfold lookup at h
  split at h
  · rename_i kt et hu
    obtain ⟨es, h1, h⟩ := Res.bind_ok.1 h
    obtain ⟨_, h2, h⟩ := Res.bind_ok.1 h
    obtain ⟨i, h3, h⟩ := Res.bind_ok.1 h
    obtain ⟨q, h4, h⟩ := Res.bind_ok.1 h
    have hes : ∃ es', MRel ι es es' ∧ ((m' = .map none ∧ es' = #[]) ∨ ∃ r' c, m' = .map (some r') ∧ (getObj r').run P w = .ok (.map es' c) w) := by
      split at h1
      · cases h1; cases hm
        exact ⟨#[], ⟨rfl, fun i x y hx => by simp at hx⟩, .inl ⟨rfl, rfl⟩⟩
      · obtain ⟨x, h5, h6⟩ := Res.bind_ok.1 h1
        cases h6
        obtain ⟨r', rfl, hb⟩ := hm.map_inv
        obtain ⟨s, es', hs, rfl, hw, hmr, _⟩ := hr.mapAt hb h5
        exact ⟨es', hmr, .inr ⟨_, _, rfl, run_getObj' hw (by intro _ _ _ h; cases h)⟩⟩
      · cases h1
    obtain ⟨es', hmr, hcase⟩ := hes
    obtain ⟨rfl, hkeys, r, h5, h6, h7⟩ := findIdx_ok hmr hk h3
    have hck : (Instr.checkKey es'.isEmpty 10000 kt k').run P w = .ok () w := by
      have := need_ok.1 h2
      have he : es.isEmpty = es'.isEmpty := by simp [Array.isEmpty, hmr.1]
      rw [he] at this
      exact prun_run this w
    have hfk := prun_run h5 w
    have hunf : ∀ u b, (match r with
          | some (_, v) => (Pure.pure (v, true) : Sem (Value × Bool))
          | none => do Pure.pure (← zeroValue et, false)).run P w = .ok (u, b) w → (Instr.lookup t m' k' ok).run P w = .ok (if ok = true then .tuple #[u, .bool b] else u) w := by
      intro u b hub
      unfold Instr.lookup
      rcases hcase with ⟨rfl, rfl⟩ | ⟨r', c, rfl, hget⟩
      · simp only [Sem.run_bind, run_under hu, Result.andThen, Sem.run_pure, hck, hfk]
        cases r with
        | none => cases hz : Sem.run P (zeroValue et) w <;> simp [hz, Result.andThen] at hub ⊢ <;> (obtain ⟨⟨rfl, rfl⟩, rfl⟩ := hub; exact ⟨rfl, rfl⟩)
        | some jv => simp_all [Result.andThen]
      · simp only [Sem.run_bind, run_under hu, Result.andThen, hget, Sem.run_pure, hck, hfk]
        cases r with
        | none => cases hz : Sem.run P (zeroValue et) w <;> simp [hz, Result.andThen] at hub ⊢ <;> (obtain ⟨⟨rfl, rfl⟩, rfl⟩ := hub; exact ⟨rfl, rfl⟩)
        | some jv => simp_all [Result.andThen]
    subst h6
    cases r with
    | none =>
      simp only [Option.map_none] at h4
      obtain ⟨z, h8, h9⟩ := Res.bind_ok.1 h4
      cases h9
      have hq := hunf z false (by simp [run_zero h8 w, Result.andThen])
      cases h
      cases ok with
      | true => exact ⟨_, hq, VRel.tuple_list (xs := [z, .bool false]) (ys := [z, .bool false]) (.cons (zero_rel h8 ι) (.cons (.bool _) .nil))⟩
      | false => exact ⟨_, hq, zero_rel h8 ι⟩
    | some jv =>
      obtain ⟨j, u⟩ := jv
      simp only [Option.map_some] at h4
      obtain ⟨e, h8, h9⟩ := Res.bind_ok.1 h4
      cases h9
      obtain ⟨e', h10, h11⟩ := h7 j u rfl
      have hv := (hmr.2 j e e' (need_ok.1 h8) h10).2.1
      rw [h11] at hv
      have hq := hunf u true rfl
      cases h
      cases ok with
      | true => exact ⟨_, hq, VRel.tuple_list (xs := [e.val, .bool true]) (ys := [u, .bool true]) (.cons hv (.cons (.bool _) .nil))⟩
      | false => exact ⟨_, hq, hv⟩
  · cases h

end Go.Cx
