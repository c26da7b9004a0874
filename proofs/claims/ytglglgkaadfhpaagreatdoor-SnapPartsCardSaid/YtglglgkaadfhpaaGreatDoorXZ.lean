/-
  CxZc: functions without a body.
-/
import Derived.Test.YtglglgkaadfhpaaGreatDoorXY
import Derived.Laws.Externs
import Derived.KernelRfl
set_option linter.all false
namespace Go.Cx
variable {P : Program} [Tab P] [TabOk P]

theorem find_of {fn : Func} {n : String} {e : Array TypeId → Array TypeId → Array Value → Sem Value} (hn : fn.name = n) (h1 : Extern.allGenericRows.lookup n = none) (h2 : Extern.allTypedRows.lookup n = some e) :
    Extern.find fn = some (e fn.params fn.resultTypes) := by
  unfold Extern.find
  simp [hn, h1, h2]

theorem find_row {fn : Func} {n : String} {e : Array Value → Sem Value} (hn : fn.name = n) (h1 : Extern.allGenericRows.lookup n = none) (h2 : Extern.allTypedRows.lookup n = none) (h3 : Extern.allRows.lookup n = some e) :
    Extern.find fn = some e := by
  unfold Extern.find
  simp [hn, h1, h2, h3]

theorem findNext_none {fn : Func} {n : String} (hn : fn.name = n) (ho : fn.origin = "") (h1 : Extern.allNextRows.lookup n = none) : Extern.findNext fn = none := by
  have h2 : Extern.allNextRows.lookup "" = none := by kernel_rfl
  unfold Extern.findNext
  simp [hn, ho, h1, h2]

theorem gives_value {F : Fence} {C : Value → World → Prop} {f : FuncId} {fn : Func} {e : Array Value → Sem Value} {args : Array Value} {w w' : World} {v : Value} (hf : P.funcs[f]? = some fn) (hb : fn.body = none) {n : String} (hn : fn.name = n)
    (hne : n ≠ "runtime.NumGoroutine") (h1 : Extern.findNext fn = none) (h2 : Extern.find fn = some e) (hr : (e args).run P w = .ok v w') (hC : C v w') : Gives F P C ((callFunc f args).run P w) := by
  rw [run_callFunc_extern hf (by rw [hn]; simpa using hne) (by rw [hb]; rfl) h1 h2, hr]
  exact hC

theorem run_externBytes {w : World} : ∀ (ns : List Int) (a : Addr) (acc : ByteArray), (∀ j x, ns[j]? = some x → w.cell? (a.add j) = some (.int .u8 x)) →
    (Extern.Bytes.loadBytes a ns.length acc).run P w = .ok ⟨acc.data ++ (ns.map fun n => UInt8.ofNat n.toNat).toArray⟩ w
  | [], a, acc, _ => by cases acc; simp [Extern.Bytes.loadBytes]
  | x :: ns, a, acc, h => by
    have h0 : w.cell? a = some (.int .u8 x) := by have := h 0 x rfl; simpa [Addr.add] using this
    have ih := run_externBytes ns (a.add 1) (acc.push x.toNat.toUInt8) (fun j y hj => by rw [add_add]; exact h (j + 1) y (by simpa using hj))
    simp only [List.length_cons, Extern.Bytes.loadBytes, Sem.run_bind, Go.load, Sem.run, h0, Result.andThen]
    rw [ih]
    cases acc; simp [ByteArray.push]

theorem bytesOf_run {ι : Emb} {σ : Hp} {w : World} (hr : Rel P ι σ w) {v v' : Value} (hv : VRel ι v v') {l : List UInt8} (h : bytesOf σ v = .ok l) : (Extern.Bytes.bytesOf v').run P w = .ok ⟨l.toArray⟩ w := by
  unfold bytesOf at h
  split at h
  · cases h; cases hv; rfl
  · cases h; cases hv; rfl
  · cases h
    cases hv
    rename_i a _ a' c' ha hc
    rfl
  · rename_i a n c _
    obtain ⟨vs, h1, h2⟩ := Res.bind_ok.1 h
    cases hv with
    | sl ha hc =>
      rename_i a' c'
      obtain ⟨l', h3, h4, h5⟩ := cellsAt_ok hr ha h1
      obtain ⟨ns, e1, e2⟩ := bytesIn_ok h3 h2
      subst e1
      have hl := run_externBytes (P := P) (w := w) ns a' .empty (fun j x hj => h5 j _ (by simp [hj]))
      have hlen : ns.length = n := by simpa using h4
      rw [hlen] at hl
      have e : Extern.Bytes.bytesOf (.slice (some a') n c') = Extern.Bytes.loadBytes a' n .empty := rfl
      rw [e, hl, e2]
      congr 2
      simp
  · cases h

theorem charsOf_ok {ι : Emb} {σ : Hp} {w : World} (hr : Rel P ι σ w) {v v' : Value} (hv : VRel ι v v') {l : List Value} (h : charsOf σ v = .ok l) :
    ∃ l', LRel (VRel ι) l l' ∧ ∀ xs : List UInt8, l' = xs.map byteV → (Extern.Bytes.bytesOf v').run P w = .ok ⟨xs.toArray⟩ w := by
  unfold charsOf at h
  split at h
  · rename_i a n c
    cases hv with
    | sl ha hc =>
      rename_i a' c'
      obtain ⟨l', h3, h4, h5⟩ := cellsAt_ok hr ha h
      refine ⟨l', h3, fun xs e => ?_⟩
      subst e
      have hl := run_externBytes (P := P) (w := w) (xs.map fun b => (b.toNat : Int)) a' .empty (fun j x hj => h5 j _ (by
        simp at hj ⊢
        obtain ⟨b, hb, rfl⟩ := hj
        exact ⟨b, hb, rfl⟩))
      have hlen : (xs.map fun b => (b.toNat : Int)).length = n := by simpa using h4
      rw [hlen] at hl
      have e : Extern.Bytes.bytesOf (.slice (some a') n c') = Extern.Bytes.loadBytes a' n .empty := rfl
      rw [e, hl]
      congr 2
      have : (ByteArray.empty.data : Array UInt8) = #[] := rfl
      have h8 : ∀ l : List UInt8, (l.map fun b => (b.toNat : Int)).map (fun n => UInt8.ofNat n.toNat) = l := by
        intro l
        induction l with
        | nil => rfl
        | cons a l ih => simp only [List.map_cons, ih]; simp
      rw [this, h8]
      simp
  · cases h

theorem one_arg {R : Value → Value → Prop} {x : Value} {a' : Array Value} (h : LRel R [x] a'.toList) : ∃ x', a' = #[x'] ∧ R x x' := by
  obtain ⟨l⟩ := a'
  cases h with
  | cons h t => cases t; exact ⟨_, rfl, h⟩

theorem two_args {R : Value → Value → Prop} {x y : Value} {a' : Array Value} (h : LRel R [x, y] a'.toList) : ∃ x' y', a' = #[x', y'] ∧ R x x' ∧ R y y' := by
  obtain ⟨l⟩ := a'
  cases h with
  | cons h t => cases t with | cons h2 t2 => cases t2; exact ⟨_, _, rfl, h, h2⟩

theorem size_digits : ∀ (n t : Nat) (acc : Array Value), (Extern.BytealgMakeNoZero.digits n t acc).size = acc.size + n
  | 0, _, _ => rfl
  | n + 1, t, acc => by rw [Extern.BytealgMakeNoZero.digits, size_digits n]; simp; omega

theorem noZero_ok {ι : Emb} {σ : Hp} {w : World} {n : Int} {t e : TypeId} {ps rs : Array TypeId} (hr : Rel P ι σ w) (hfree : Free ι σ.next) (ht : rs[0]? = some t) (hu : P.underlying t = some (.slice e)) (hs : szOf P e = .ok 1) (h1 : 0 < n) (h2 : n ≤ 2 ^ 47) :
    ∃ v' w', (Extern.BytealgMakeNoZero.makeNoZero ps rs #[.int .i64 n]).run P w = .ok v' w' ∧
      After P ι σ w (σ.alloc (row (List.replicate n.toNat unk) e true)) (.slice (some ⟨σ.next, 0, none⟩) n.toNat n.toNat) v' w' := by
  obtain ⟨i, hi, hsz⟩ : ∃ i, P.info? e = some i ∧ i.size = 1 := by
    have := szOf_ok hs
    cases hi : P.info? e with
    | none => simp [hi] at this
    | some i => simp [hi] at this; exact ⟨i, rfl, this⟩
  have hn : ¬ (n < 0 ∨ n > 2 ^ 48) := by
    have e1 : (2 : Int) ^ 47 = 140737488355328 := by decide
    have e2 : (2 : Int) ^ 48 = 281474976710656 := by decide
    rw [e2]; rw [e1] at h2; omega
  let cap := (Question.appendCap n.toNat 0 e).cut (w.tape w.drawn (.appendCap n.toNat 0 e))
  have hcap : n.toNat ≤ cap := by simp [cap, Question.cut]
  have hrun : ∃ (bytes : Nat) (w1 : World), w1.heap = w.heap ∧ w1.tape = w.tape ∧ w1.os = w.os ∧ w1.output = w.output ∧ (Extern.BytealgMakeNoZero.makeNoZero ps rs #[.int .i64 n]).run P w =
      .ok (.slice (some ⟨w.heap.size, 0, none⟩) n.toNat cap) { w1 with heap := w.heap.push (.cells (Extern.BytealgMakeNoZero.digits cap bytes #[]) e) } := by
    refine ⟨(Question.extern "internal/bytealg.MakeNoZero.bytes" 0).cut (w.tape (w.drawn + 1) (Question.extern "internal/bytealg.MakeNoZero.bytes" 0)), { w with drawn := w.drawn + 2 }, rfl, rfl, rfl, rfl, ?_⟩
    have hch : (choose (.appendCap n.toNat 0 e)).run P w = .ok cap { w with drawn := w.drawn + 1 } := by
      simp [choose, Sem.run, Question.forced, cap]
    have hq : (choose (.extern "internal/bytealg.MakeNoZero.bytes" 0)).run P { w with drawn := w.drawn + 1 } = .ok ((Question.extern "internal/bytealg.MakeNoZero.bytes" 0).cut (w.tape (w.drawn + 1) (Question.extern "internal/bytealg.MakeNoZero.bytes" 0))) { w with drawn := w.drawn + 2 } := by
      simp [choose, Sem.run, Question.forced]
      exact ⟨rfl, rfl, rfl⟩
    have hc : (decide (n < 0) || decide (n > 2 ^ 48)) = false := by
      rw [Bool.or_eq_false_iff]; exact ⟨by simpa using fun h => hn (.inl h), by simpa using fun h => hn (.inr h)⟩
    have hdef : Extern.BytealgMakeNoZero.makeNoZero ps rs #[.int .i64 n] = (do
      let some t := rs[0]? | stuck "bytealg.MakeNoZero: no result type"
      let .slice elem ← underlying t | stuck "bytealg.MakeNoZero: slice type expected"
      if n < 0 || n > 2 ^ 48 then runtimePanic (.error "makeslice: len out of range")
      let cap ← choose (.appendCap n.toNat 0 elem)
      askRoom cap
      let bytes ← choose (.extern "internal/bytealg.MakeNoZero.bytes" 0)
      let a ← newRow elem (Extern.BytealgMakeNoZero.digits cap bytes #[])
      Pure.pure (.slice (some a) n.toNat cap)) := rfl
    rw [hdef]
    simp only [ht, Sem.run_bind, run_under hu, Result.andThen, hc, Bool.false_eq_true, if_false, Sem.run_pure, hch, run_askRoom]
    simp only [hq, Result.andThen, newRow, newObj, Sem.run, Sem.run_bind, Sem.run_pure]
  obtain ⟨bytes, w1, g1, g2, g3, g4, hrun⟩ := hrun
  refine ⟨_, _, hrun, ?_⟩
  have hr1 : Rel P ι σ w1 := hr.congr g1
  have hst : Step ι σ w ι σ w1 := ⟨Nat.le_refl _, by rw [g1]; exact Nat.le_refl _, fun _ _ => .inl rfl, fun _ _ _ => by rw [g1], fun b s h1 h2 _ => absurd h1 (by omega), fun _ _ h => h, g2, g3, g4⟩
  obtain ⟨k1, k2⟩ := hr1.alloc (hfree _ (Nat.le_refl _)) (g := some (cap * 1, 1)) (row_rel (P := P) (ι := ι) (l := List.replicate n.toNat unk) (e := e) (opn := true) (s := ⟨w1.heap.size, some (cap * 1, 1)⟩) (c' := Extern.BytealgMakeNoZero.digits cap bytes #[])
    (.inr ⟨cap * 1, 1, i, rfl, rfl, by rw [size_digits]; simp, by simp; omega, hi, hsz, by omega⟩)
    (fun j x hx => by
      have hx' := List.mem_of_getElem? hx
      have hj : j < n.toNat := by have := (List.getElem?_eq_some_iff.1 hx).1; simpa using this
      have hx2 : x = unk := List.eq_of_mem_replicate hx'
      subst hx2
      have hlt : j < (Extern.BytealgMakeNoZero.digits cap bytes #[]).size := by rw [size_digits]; simp; omega
      exact ⟨_, Array.getElem?_eq_getElem hlt, .unk _⟩))
  rw [g1] at k1 k2
  refine ⟨_, k1, hst.trans hr1 k2, .sl (by simp [ARel, Emb.set]) ?_⟩
  simp only [CRel, Emb.set, if_true]
  exact .inr ⟨cap * 1, 1, rfl, by omega, hcap, by simp⟩

theorem ext_ok {F : Fence} {f : FuncId} {fn : Func} {args : List Value} {σ σ' : Hp} {v : Value} {ι : Emb} {w : World} {args' : Array Value} (hf : P.funcs[f]? = some fn) (hb : fn.body = none)
    (h : extern P fn args σ = .ok (v, σ')) (hr : Rel P ι σ w) (hfree : Free ι σ.next) (ha : LRel (VRel ι) args args'.toList) : Gives F P (After P ι σ w σ' v) ((callFunc f args').run P w) := by
  unfold extern at h
  split at h
  · cases h
  · rename_i horg
    have horg : fn.origin = "" := by simpa using horg
    split at h
    · rename_i x hn
      cases h
      obtain ⟨a', rfl, hx⟩ := one_arg ha
      exact gives_value hf hb hn (by decide) (findNext_none hn horg (by kernel_rfl)) (find_row hn (by kernel_rfl) (by kernel_rfl) (e := Extern.AbiNoEscape.same) (by kernel_rfl)) (v := a') (w' := w) rfl ⟨ι, hr, Step.refl _ _ _, hx⟩
    · rename_i n hn
      unfold madeNoZero at h
      obtain ⟨t, ht, h⟩ := Res.bind_ok.1 h
      obtain ⟨e, he, h⟩ := Res.bind_ok.1 h
      obtain ⟨k, hk, h⟩ := Res.bind_ok.1 h
      obtain ⟨hc, h⟩ := sure_ok.1 h
      cases h
      simp only [Bool.and_eq_true, decide_eq_true_eq] at hc
      obtain ⟨⟨hk1, h1⟩, h2⟩ := hc
      have hk1 : k = 1 := by simpa using hk1
      subst hk1
      obtain ⟨a', rfl, hx⟩ := one_arg ha
      rw [hx.int_eq]
      obtain ⟨v', w', h3, h4⟩ := noZero_ok (ps := fn.params) hr hfree (need_ok.1 ht) (elemT_ok he) hk h1 h2
      exact gives_value hf hb hn (by decide) (findNext_none hn horg (by kernel_rfl)) (find_of hn (by kernel_rfl) (e := Extern.BytealgMakeNoZero.makeNoZero) (by kernel_rfl)) h3 h4
    · rename_i a b hn
      obtain ⟨a', b', rfl, h1, h2⟩ := two_args ha
      have row : ∀ {x y : List UInt8}, (Extern.Bytes.bytesOf a').run P w = .ok ⟨x.toArray⟩ w → (Extern.Bytes.bytesOf b').run P w = .ok ⟨y.toArray⟩ w → v = goInt (Extern.BytealgCompare.cmp ⟨x.toArray⟩ ⟨y.toArray⟩) → σ' = σ →
          Gives F P (After P ι σ w σ' v) ((callFunc f #[a', b']).run P w) := by
        intro x y q1 q2 q3 q4
        subst q3 q4
        refine gives_value hf hb hn (by decide) (findNext_none hn horg (by kernel_rfl)) (find_row hn (by kernel_rfl) (by kernel_rfl) (e := Extern.BytealgCompare.compare) (by kernel_rfl)) (v := goInt (Extern.BytealgCompare.cmp ⟨x.toArray⟩ ⟨y.toArray⟩)) (w' := w) ?_ ⟨ι, hr, Step.refl _ _ _, .int _ _⟩
        show (do Pure.pure (goInt (Extern.BytealgCompare.cmp (← Extern.Bytes.bytesOf a') (← Extern.Bytes.bytesOf b'))) : Sem Value).run P w = _
        simp only [Sem.run_bind, q1, q2, Result.andThen, Sem.run_pure]
      split at h
      · rename_i x y hxy
        obtain ⟨x, hx, hxy⟩ := Res.bind_ok.1 hxy
        obtain ⟨y, hy, hxy⟩ := Res.bind_ok.1 hxy
        cases hxy
        cases h
        exact row (bytesOf_run hr h1 hx) (bytesOf_run hr h2 hy) rfl rfl
      · obtain ⟨x, hx, h⟩ := Res.bind_ok.1 h
        obtain ⟨y, hy, h⟩ := Res.bind_ok.1 h
        obtain ⟨c, hc, h⟩ := Res.bind_ok.1 h
        cases h
        obtain ⟨x', e1, x1⟩ := charsOf_ok hr h1 hx
        obtain ⟨y', e2, y1⟩ := charsOf_ok hr h2 hy
        obtain ⟨xs, ys, rfl, rfl, rfl⟩ := TabOk.cmp hr.named (need_ok.1 hc) e1 e2
        exact row (x1 xs rfl) (y1 ys rfl) rfl rfl
    · cases h

end Go.Cx

/-
  CxZd: a run on a part of the heap that it leaves as it was.
-/

namespace Go.Cx

theorem Gives.mono {P : Program} {F : Fence} {C C' : Value → World → Prop} {r : Result Next} (h : Gives F P C r) (hc : ∀ v w, C v w → C' v w) : Gives F P C' r := by
  unfold Gives at h
  split at h
  · exact hc _ _ h
  · exact CallsIn.mono h fun e w' ⟨v, he, hv⟩ => ⟨v, he, hc _ _ hv⟩
  · exact RoundIn.mono h fun e w' ⟨v, he, hv⟩ => ⟨v, he, hc _ _ hv⟩
  · exact h.elim

/-- What stands for a value in two embeddings. -/
theorem VRel.over {ι ι₂ ι₃ : Emb} (hag : ∀ b, ι₂ b ≠ .unborn → ι₃ b = ι b) {v v₀ : Value} (h : VRel ι₂ v v₀) : ∀ {v' : Value}, VRel ι₃ v v' → VRel ι v v' := by
  have ha : ∀ {a a₀ a' : Addr}, ARel ι₂ a a₀ → ARel ι₃ a a' → ARel ι a a' := by
    intro a a₀ a' h1 h2
    unfold ARel at *
    rw [← hag a.block (fun e => by rw [e] at h1; exact h1)]
    exact h2
  have hb : ∀ {a a₀ a' : Nat}, BRel ι₂ a a₀ → BRel ι₃ a a' → BRel ι a a' := by
    intro a a₀ a' h1 h2
    unfold BRel at *
    rw [← hag a (fun e => by rw [e] at h1; exact h1)]
    exact h2
  have hc : ∀ {a : Addr} {c c₀ c' : Nat}, CRel ι₂ a c c₀ → CRel ι₃ a c c' → CRel ι a c c' := by
    intro a c c₀ c' h1 h2
    unfold CRel at *
    rw [← hag a.block (fun e => by rw [e] at h1; exact h1)]
    exact h2
  induction h with
  | bool b => intro v' k; cases k; exact .bool b
  | int k n => intro v' k; cases k; exact .int _ _
  | string s => intro v' k; cases k; exact .string s
  | pnil => intro v' k; cases k; exact .pnil
  | ptr h1 => intro v' k; cases k with | ptr h2 => exact .ptr (ha h1 h2)
  | slnil l c => intro v' k; cases k; exact .slnil l c
  | sl h1 h2 => intro v' k; cases k with | sl h3 h4 => exact .sl (ha h1 h3) (hc h2 h4)
  | mnil => intro v' k; cases k; exact .mnil
  | map h1 => intro v' k; cases k with | map h2 => exact .map (hb h1 h2)
  | @func f f' xs xs' ys ys' hf hx h1 hy h2 i1 i2 =>
    intro v' k
    cases k with
    | @func _ f'' _ xs'' _ ys'' hf' hx' h1' hy' h2' =>
      refine .func ?_ hx' (fun i x y hx1 hy1 => ?_) hy' (fun i x y hx1 hy1 => ?_)
      · cases hf with
        | same f hn =>
          cases hf' with
          | same _ _ => exact .same f hn
          | yield l l' _ => exact absurd rfl (hn l)
        | yield l l' hl =>
          cases hf' with
          | same _ hn => exact absurd rfl (hn l)
          | yield _ l'' hl' => exact .yield l l'' (hb hl hl')
      · have hlt : i < xs'.size := by have := (Array.getElem?_eq_some_iff.1 hx1).1; omega
        exact i1 i x _ hx1 (Array.getElem?_eq_getElem hlt) (h1' i x y hx1 hy1)
      · have hlt : i < ys'.size := by have := (Array.getElem?_eq_some_iff.1 hx1).1; omega
        exact i2 i x _ hx1 (Array.getElem?_eq_getElem hlt) (h2' i x y hx1 hy1)
  | fnil => intro v' k; cases k; exact .fnil
  | iface t h1 i1 => intro v' k; cases k with | iface _ h2 => exact .iface t (i1 h2)
  | inil => intro v' k; cases k; exact .inil
  | @agg xs xs' hx h1 i1 =>
    intro v' k
    cases k with
    | agg hx' h1' =>
      refine .agg hx' fun i x y hx1 hy1 => ?_
      have hlt : i < xs'.size := by have := (Array.getElem?_eq_some_iff.1 hx1).1; omega
      exact i1 i x _ hx1 (Array.getElem?_eq_getElem hlt) (h1' i x y hx1 hy1)
  | @tuple xs xs' hx h1 i1 =>
    intro v' k
    generalize hq : Value.tuple xs = q at k
    cases k with
    | tuple hx' h1' =>
      cases hq
      refine .tuple hx' fun i x y hx1 hy1 => ?_
      have hlt : i < xs'.size := by have := (Array.getElem?_eq_some_iff.1 hx1).1; omega
      exact i1 i x _ hx1 (Array.getElem?_eq_getElem hlt) (h1' i x y hx1 hy1)
    | unk v => exact .unk _
    | _ => cases hq
  | unk v => intro v' _; exact .unk v'
  | sym b h1 =>
    intro v' k
    generalize hq : symv b = q at k
    cases k with
    | sym c h2 =>
      cases hq
      refine .sym b ⟨?_, h2.2⟩
      rw [← hag b (fun e => by rw [h1.1] at e; cases e)]
      exact h2.1
    | _ => cases hq

/-- Cells, or a map. -/
def simpleOb : Ob → Bool
  | .cells .. => true
  | .map .. => true
  | _ => false

theorem ORel.over {P : Program} {ι ι₂ ι₃ : Emb} (hag : ∀ b, ι₂ b ≠ .unborn → ι₃ b = ι b) {s : Slot} {o : Ob} {o₀ o' : Obj} (hs : simpleOb o = true) (h : ORel P ι₂ s o o₀) (k : ORel P ι₃ s o o') : ORel P ι s o o' := by
  cases k with
  | cells hg hc =>
    cases h with
    | cells _ hc₀ =>
      refine .cells hg fun i hi v hv => ?_
      obtain ⟨v₀, _, h2⟩ := hc₀ i hi v hv
      obtain ⟨v', h3, h4⟩ := hc i hi v hv
      exact ⟨v', h3, h2.over hag h4⟩
  | map hsz hm =>
    cases h with
    | map hsz₀ hm₀ =>
      refine .map hsz fun i x y hx hy => ?_
      obtain ⟨h1, h2, h3⟩ := hm i x y hx hy
      obtain ⟨h4, h5, _⟩ := hm₀ i x _ hx (Array.getElem?_eq_getElem (by have := (Array.getElem?_eq_some_iff.1 hx).1; omega))
      exact ⟨h4.over hag h1, h5.over hag h2, h3⟩
  | _ => cases hs

/-- Only what is below. -/
def cut (ι : Emb) (n : Nat) : Emb := fun b => if b < n then ι b else .unborn

theorem cut_free (ι : Emb) (n : Nat) : Free (cut ι n) n := fun b hb => by simp [cut, Nat.not_lt.2 hb]

theorem cut_le (ι : Emb) (n : Nat) : Le (cut ι n) ι := fun b => by
  by_cases h : b < n
  · exact .inr (.inl (by simp [cut, h]))
  · exact .inl (by simp [cut, h])

/-- No address stands in it, but names (below 'N') may. -/
def flatN (N : Nat) : Nat → Value → Bool
  | _, .chan (some b) => Nat.blt b N
  | n + 1, .agg cs => cs.toList.all (flatN N n)
  | n + 1, .tuple cs => !cs.toList.isEmpty && cs.toList.all (flatN N n)
  | n, v => flat n v

theorem flatN_over {N : Nat} {ι ι₃ : Emb} (hag : ∀ b u, b < N → ι₃ b = .val u → ι b = .val u) : ∀ (n : Nat) {v v' : Value}, flatN N n v = true → VRel ι₃ v v' → VRel ι v v' := by
  have hfl : ∀ (n : Nat) {v v' : Value}, flat n v = true → VRel ι₃ v v' → VRel ι v v' := by
    intro n v v' h k
    have := flat_eq n h k
    subst this
    exact flat_refl ι n _ h
  have hch : ∀ {n b : Nat} {v' : Value}, flatN N n (.chan (some b)) = true → VRel ι₃ (.chan (some b)) v' → VRel ι (.chan (some b)) v' := by
    intro n b v' h k
    have h : b < N := by cases n <;> simpa [flatN] using h
    generalize hq : Value.chan (some b) = q at k
    cases k with
    | sym b hb =>
      cases hq
      exact .sym _ ⟨hag _ _ h hb.1, hb.2⟩
    | _ => cases hq
  intro n
  induction n with
  | zero =>
    intro v v' h k
    cases v with
    | chan r =>
      cases r with
      | none => simp [flatN, flat] at h
      | some b => exact hch h k
    | _ => exact hfl 0 (by simpa [flatN] using h) k
  | succ n ih =>
    intro v v' h k
    cases v with
    | chan r =>
      cases r with
      | none => simp [flatN, flat] at h
      | some b => exact hch h k
    | agg xs =>
      simp only [flatN, List.all_eq_true] at h
      cases k with
      | agg hx h1 => exact .agg hx fun i x y hx1 hy1 => ih (h x (by simpa using Array.mem_of_getElem? hx1)) (h1 i x y hx1 hy1)
    | tuple xs =>
      simp only [flatN, Bool.and_eq_true, List.all_eq_true] at h
      generalize hq : Value.tuple xs = q at k
      cases k with
      | tuple hx h1 => cases hq; exact .tuple hx fun i x y hx1 hy1 => ih (h.2 x (by simpa using Array.mem_of_getElem? hx1)) (h1 i x y hx1 hy1)
      | unk v =>
        exfalso
        cases hq
        have := h.2 (.tuple #[]) (by simp)
        cases n <;> simp [flatN, flat] at this
      | _ => cases hq
    | _ => exact hfl (n + 1) (by simpa [flatN] using h) k

/-- A run on a part of the heap, under another table: what is left of it where the part stays as it was. -/
theorem sub_run {P : Program} (T1 T2 : Tab P) (T2ok : @TabOk P T2) {O : Oracle} (henv : @Env P T2 O) {F : Fence} (ho : Opn F) {n : Nat} {f : FuncId} {args : List Value} {σl σl' : Hp} {v : Value}
    (hrun : (@go P T2 O n).call f args σl = .ok (v, σl')) (hsimple : ∀ b o, σl.get b = some o → simpleOb o = true) (hv : flatN σl.next 8 v = true) (hsame : ∀ b o, σl.get b = some o → σl'.get b = some o)
    {σ : Hp} {ι : Emb} {w : World} {args' : Array Value} (hsub : ∀ b o, σl.get b = some o → σ.get b = some o) (hr : @Rel P T1 ι σ w) (hr2 : @Rel P T2 (cut ι σl.next) σl w)
    (hargs : LRel (VRel (cut ι σl.next)) args args'.toList) : Gives F P (@After P T1 ι σ w σ v) ((callFunc f args').run P w) := by
  refine (@Sound.call P T2 _ (@go_sound P T2 T2ok O henv n) F ho _ _ _ _ _ _ _ _ hrun hr2 (cut_free ι _) hargs).mono ?_
  rintro v' w' ⟨ι3, k1, k2, k3⟩
  have klive := @Rel.live P T2 _ _ _ k1
  have rlive := @Rel.live P T1 _ _ _ hr
  have rinj := @Rel.inj P T1 _ _ _ hr
  have rbound := @Rel.bound P T1 _ _ _ hr
  have rlive2 := @Rel.live P T2 _ _ _ hr2
  have hkeep : ∀ b, cut ι σl.next b ≠ .unborn → ι3 b = ι b := by
    intro b hb
    have hlt : b < σl.next := by
      by_cases h : b < σl.next
      · exact h
      · simp [cut, h] at hb
    have hc : cut ι σl.next b = ι b := by simp [cut, hlt]
    rcases k2.old b (.inl hlt) with q | ⟨q, ⟨o, ho⟩, _⟩
    · rw [q, hc]
    · obtain ⟨s, h1, _⟩ := klive b o (hsame b o ho)
      rw [q] at h1; cases h1
  have hnames : ∀ b u, b < σl.next → ι3 b = .val u → ι b = .val u := by
    intro b u hlt hb
    rcases k2.old b (.inl hlt) with q | ⟨q, _⟩
    · rw [q] at hb
      simpa [cut, hlt] using hb
    · rw [q] at hb; cases hb
  have hcl : ∀ b s, cut ι σl.next b = .live s → ι b = .live s := by
    intro b s hb
    by_cases hlt : b < σl.next
    · simpa [cut, hlt] using hb
    · simp [cut, hlt] at hb
  have hout : ∀ b s, ι b = .live s → ¬ σl.is b → w'.heap[s.x]? = w.heap[s.x]? := by
    intro b s hb hn
    refine k2.frame s.x (rbound b s hb) fun c t hc ht hx => ?_
    have := rinj c b t s (hcl c t ht) hb hx
    subst this
    exact hn hc
  refine ⟨ι, @Rel.mk P T1 _ _ _ ?_ rinj (fun b s hb => Nat.lt_of_lt_of_le (rbound b s hb) k2.size) (@Rel.glob P T1 _ _ _ hr) (@Rel.gborn P T1 _ _ _ hr) (@Rel.base P T1 _ _ _ hr) (@Rel.ids P T1 _ _ _ hr) (@Rel.names P T1 _ _ _ hr),
    ⟨Nat.le_refl _, k2.size, fun _ _ => .inl rfl, ?_, fun b s h1 h2 _ => absurd h1 (by omega), fun _ _ h => h, k2.tape, k2.os, k2.output⟩, flatN_over hnames 8 hv k3⟩
  · intro b o hbo
    cases hq : σl.get b with
    | none =>
      obtain ⟨s, h1, o', h2, h3⟩ := rlive b o hbo
      exact ⟨s, h1, o', by rw [hout b s h1 fun ⟨o, ho⟩ => by rw [hq] at ho; cases ho]; exact h2, h3⟩
    | some o2 =>
      have e := hsub b o2 hq
      rw [hbo] at e
      cases e
      obtain ⟨s, h1, o', h2, h3⟩ := klive b o (hsame b o hq)
      obtain ⟨s0, g1, o0, _, g3⟩ := rlive2 b o hq
      have h4 : ι b = .live s := by
        rw [← hkeep b (by rw [g1]; intro h; cases h)]; exact h1
      have h5 : s0 = s := by
        have := hcl b s0 g1
        rw [h4] at this
        cases this; rfl
      subst h5
      exact ⟨s0, h4, o', h2, g3.over hkeep (hsimple b o hq) h3⟩
  · intro x hx hn
    refine k2.frame x hx fun c t ⟨o, hc⟩ ht => hn c t ⟨o, hsub c o hc⟩ (hcl c t ht)

/-- The whole heap's part. -/
theorem Rel.part {P : Program} (T1 T2 : Tab P) {ι : Emb} {σ σl : Hp} {w : World} (hr : @Rel P T1 ι σ w) (hn : ∀ b v, @Tab.nm P T2 b = some v → @Tab.nm P T1 b = some v ∧ b < σl.next) (hbase : P.globals.size ≤ σl.next) (hids : ∀ b o, σl.get b = some o → b < σl.next)
    (hheld : ∀ b o, σl.get b = some o → ∃ s, ι b = .live s ∧ ∃ o', w.heap[s.x]? = some o' ∧ ORel P (cut ι σl.next) s o o') : @Rel P T2 (cut ι σl.next) σl w := by
  have hcl : ∀ b s, cut ι σl.next b = .live s → ι b = .live s := by
    intro b s hb
    by_cases hlt : b < σl.next
    · simpa [cut, hlt] using hb
    · simp [cut, hlt] at hb
  refine @Rel.mk P T2 _ _ _ (fun b o h => ?_) (fun b c s t h1 h2 h3 => @Rel.inj P T1 _ _ _ hr b c s t (hcl b s h1) (hcl c t h2) h3) (fun b s h1 => @Rel.bound P T1 _ _ _ hr b s (hcl b s h1)) (fun b s hb h1 => @Rel.glob P T1 _ _ _ hr b s hb (hcl b s h1)) (fun b hb => ?_) hbase hids fun b v hv => ?_
  · obtain ⟨s, h1, o', h2, h3⟩ := hheld b o h
    exact ⟨s, by simp [cut, hids b o h, h1], o', h2, h3⟩
  · have : b < σl.next := by omega
    simp only [cut, this, if_true]
    exact @Rel.gborn P T1 _ _ _ hr b hb
  · obtain ⟨h1, h2⟩ := hn b v hv
    simp only [cut, h2, if_true]
    exact @Rel.names P T1 _ _ _ hr b v h1

/-- Rows that bear no address. -/
structure Rows (σl : Hp) : Prop where
  row : ∀ b o, σl.get b = some o → b < σl.next ∧ ∃ l e, o = row l e false ∧ l.all (flat 8) = true

theorem ORel.flat {P : Program} {ι ι' : Emb} {s : Slot} {l : List Value} {e : TypeId} {o' : Obj} (hl : l.all (Cx.flat 8) = true) (h : ORel P ι s (row l e false) o') : ORel P ι' s (row l e false) o' := by
  unfold row at h ⊢
  cases h with
  | cells hg hc =>
    refine .cells hg fun i hi v hv => ?_
    obtain ⟨v', h1, h2⟩ := hc i hi v hv
    have hv' : l[i]? = some v := by
      rw [Tr.get_fill] at hv
      simp only [Nat.zero_le, if_true, Nat.sub_zero] at hv
      cases hq : l[i]? with
      | none => rw [hq] at hv; simp [Tr.get_nil] at hv
      | some u => rw [hq] at hv; exact hv
    have hf := List.all_eq_true.1 hl v (List.mem_of_getElem? hv')
    have := flat_eq 8 hf h2
    subst this
    exact ⟨v', h1, flat_refl ι' 8 v' hf⟩

/-- A run on rows. -/
theorem rows_run {P : Program} (T1 T2 : Tab P) (T2ok : @TabOk P T2) {O : Oracle} (henv : @Env P T2 O) {F : Fence} (ho : Opn F) {n : Nat} {f : FuncId} {args : List Value} {σl σl' : Hp} {v : Value}
    (hrun : (@go P T2 O n).call f args σl = .ok (v, σl')) (hrows : Rows σl) (hbase : P.globals.size ≤ σl.next) (hnm : ∀ b v, @Tab.nm P T2 b = some v → @Tab.nm P T1 b = some v ∧ b < σl.next)
    (hargs : args.all (flatN σl.next 8) = true) (hv : flatN σl.next 8 v = true) (hsame : ∀ b o, σl.get b = some o → σl'.get b = some o)
    {σ : Hp} {ι : Emb} {w : World} {args' : Array Value} (hsub : ∀ b o, σl.get b = some o → σ.get b = some o) (hr : @Rel P T1 ι σ w)
    (ha : LRel (VRel ι) args args'.toList) : Gives F P (@After P T1 ι σ w σ v) ((callFunc f args').run P w) := by
  refine sub_run T1 T2 T2ok henv ho hrun (fun b o h => ?_) hv hsame hsub hr (Rel.part T1 T2 hr hnm hbase (fun b o h => (hrows.row b o h).1) fun b o h => ?_) ?_
  · obtain ⟨_, l, e, rfl, _⟩ := hrows.row b o h; rfl
  · obtain ⟨_, l, e, rfl, hl⟩ := hrows.row b o h
    obtain ⟨s, h1, o', h2, h3⟩ := @Rel.live P T1 _ _ _ hr b _ (hsub b _ h)
    exact ⟨s, h1, o', h2, h3.flat hl⟩
  · clear hrun
    generalize args'.toList = l at ha
    induction ha with
    | nil => exact .nil
    | cons h _ ih =>
      simp only [List.all_cons, Bool.and_eq_true] at hargs
      exact .cons (flatN_over (fun b u hb hu => by simp [cut, hb, hu]) 8 hargs.1 h) (ih hargs.2)

/-- What is asked of an oracle. -/
def Knows (P : Program) [Tab P] (O : Oracle) : Prop :=
  ∀ {F : Fence}, Opn F → ∀ {f : FuncId} {args : List Value} {σ : Hp} {v : Value} {ι : Emb} {w : World} {args' : Array Value}, O f args σ = some v → Rel P ι σ w → Free ι σ.next → LRel (VRel ι) args args'.toList →
    Gives F P (After P ι σ w σ v) ((callFunc f args').run P w)

theorem no_oracle (P : Program) [Tab P] : Knows P fun _ _ _ => none := fun _ _ _ _ _ _ _ _ h => by cases h

variable {P : Program} [Tab P] [TabOk P]

theorem env_gen {O : Oracle} (h1 : Room P) (h2 : P.follows .mixedOrders = true) (h3 : (P.funcs.toList.all fun fn => !(fn.name == "runtime.NumGoroutine")) = true) (h : Knows P O) : Env P O where
  room := h1
  mixed := h2
  named := fun f fn hf _ => by
    have := List.all_eq_true.1 h3 fn (by simpa using Array.mem_of_getElem? hf)
    simpa using this
  ora := h
  ext := fun _ _ _ _ _ _ _ _ _ _ hf hb h hr hfree ha => ext_ok hf hb h hr hfree ha

/-- No names. -/
@[reducible] def noTab (P : Program) : Tab P := ⟨fun _ => none, fun _ _ => none, fun _ => none, fun _ _ _ => false, fun _ _ => none, fun _ => false, fun _ => false, fun _ => none⟩

theorem noTab_ok (P : Program) : @TabOk P (noTab P) :=
  @TabOk.mk P (noTab P) (fun _ _ => rfl) (fun _ _ _ _ _ h => by cases h) (fun _ _ _ _ h => by cases h) (fun _ _ _ _ _ h => by cases h) (fun _ _ _ _ _ _ h => by cases h) (fun _ _ _ h => by cases h) (fun _ _ _ h => by cases h) (fun _ _ _ _ h => by cases h)

end Go.Cx

/-
  CxZe: an oracle out of single calls that are known.
-/

namespace Go.Cx

def optSame : Option Value → Option Value → Bool
  | none, none => true
  | some a, some b => veq 8 a b
  | _, _ => false

def trSame : Tr Value → Tr Value → Bool
  | .nil, .nil => true
  | .node v l r, .node v' l' r' => optSame v v' && trSame l l' && trSame r r'
  | _, _ => false

def entSame : List MapEntry → List MapEntry → Bool
  | [], [] => true
  | a :: r, b :: s => veq 8 a.key b.key && veq 8 a.val b.val && Nat.beq a.born b.born && entSame r s
  | _, _ => false

def obSame : Option Ob → Ob → Bool
  | some (.cells c n e lo hi opn), .cells c' n' e' lo' hi' opn' => Nat.beq n n' && Nat.beq e e' && Nat.beq lo lo' && Nat.beq hi hi' && (opn == opn') && trSame c c'
  | some (.map es k), .map es' k' => Nat.beq k k' && entSame es.toList es'.toList
  | _, _ => false

theorem optSame_eq {a b : Option Value} (h : optSame a b = true) : a = b := by
  cases a <;> cases b <;> simp [optSame] at h ⊢
  exact veq_eq 8 _ _ h

theorem trSame_eq : ∀ {a b : Tr Value}, trSame a b = true → a = b := by
  intro a
  induction a with
  | nil => intro b h; cases b <;> simp [trSame] at h ⊢
  | node v l r il ir =>
    intro b h
    cases b with
    | nil => simp [trSame] at h
    | node v' l' r' =>
      simp only [trSame, Bool.and_eq_true] at h
      rw [optSame_eq h.1.1, il h.1.2, ir h.2]

theorem entSame_eq : ∀ {a b : List MapEntry}, entSame a b = true → a = b := by
  intro a
  induction a with
  | nil => intro b h; cases b <;> simp [entSame] at h ⊢
  | cons x a ih =>
    intro b h
    cases b with
    | nil => simp [entSame] at h
    | cons y b =>
      simp only [entSame, Bool.and_eq_true, Nat.beq_eq] at h
      obtain ⟨⟨⟨h1, h2⟩, h3⟩, h4⟩ := h
      have e1 := veq_eq 8 _ _ h1
      have e2 := veq_eq 8 _ _ h2
      clear h1 h2
      cases x; cases y
      simp only at e1 e2 h3
      subst e1 e2 h3
      rw [ih h4]

theorem obSame_eq {a : Option Ob} {b : Ob} (h : obSame a b = true) : a = some b := by
  unfold obSame at h
  split at h
  · simp only [Bool.and_eq_true, beq_iff_eq, Nat.beq_eq] at h
    obtain ⟨⟨⟨⟨⟨rfl, rfl⟩, rfl⟩, rfl⟩, rfl⟩, h⟩ := h
    rw [trSame_eq h]
  · simp only [Bool.and_eq_true, Nat.beq_eq] at h
    obtain ⟨rfl, h⟩ := h
    rw [Array.toList_inj.1 (entSame_eq h)]
  · cases h

/-- A call that is known: function, arguments, what has to lie on the heap, result. -/
structure Known where
  f : FuncId
  args : List Value
  part : List (Nat × Ob)
  v : Value

def held (σ : Hp) : List (Nat × Ob) → Bool
  | [] => true
  | x :: r => obSame (σ.get x.1) x.2 && held σ r

def fits (x : Known) (f : FuncId) (args : List Value) (σ : Hp) : Bool := Nat.beq x.f f && allTwo (veq 8) x.args args && held σ x.part

/-- The first that fits. -/
def told : List Known → Oracle
  | [], _, _, _ => none
  | x :: r, f, args, σ => match fits x f args σ with
    | true => some x.v
    | false => told r f args σ

theorem held_ok {σ : Hp} : ∀ {l : List (Nat × Ob)}, held σ l = true → ∀ x ∈ l, σ.get x.1 = some x.2 := by
  intro l
  induction l with
  | nil => intro _ x hx; simp at hx
  | cons y l ih =>
    intro h x hx
    simp only [held, Bool.and_eq_true] at h
    rcases List.mem_cons.1 hx with rfl | hx
    · exact obSame_eq h.1
    · exact ih h.2 x hx

/-- What is asked of a call that is known. -/
def Good (P : Program) [Tab P] (x : Known) : Prop :=
  ∀ {F : Fence}, Opn F → ∀ {σ : Hp} {ι : Emb} {w : World} {args' : Array Value}, (∀ y ∈ x.part, σ.get y.1 = some y.2) → Rel P ι σ w → Free ι σ.next → LRel (VRel ι) x.args args'.toList →
    Gives F P (After P ι σ w σ x.v) ((callFunc x.f args').run P w)

theorem told_ok {σ : Hp} {f : FuncId} {args : List Value} {v : Value} : ∀ {l : List Known}, told l f args σ = some v → ∃ x ∈ l, x.f = f ∧ x.args = args ∧ x.v = v ∧ held σ x.part = true := by
  intro l
  induction l with
  | nil => intro h; cases h
  | cons x l ih =>
    intro h
    unfold told at h
    split at h
    · rename_i hf
      cases h
      simp only [fits, Bool.and_eq_true, Nat.beq_eq] at hf
      exact ⟨x, by simp, hf.1.1, allTwo_eq (fun a b => veq_eq 8 a b) hf.1.2, rfl, hf.2⟩
    · obtain ⟨y, h1, h2⟩ := ih h
      exact ⟨y, List.mem_cons_of_mem _ h1, h2⟩

theorem told_knows {P : Program} [Tab P] {l : List Known} (h : ∀ x ∈ l, Good P x) : Knows P (told l) := by
  intro F ho f args σ v ι w args' hO hr hfree ha
  obtain ⟨x, hx, rfl, rfl, rfl, hp⟩ := told_ok hO
  exact h x hx ho (held_ok hp) hr hfree ha

/-- A heap of these. -/
def hpOf (n : Nat) : List (Nat × Ob) → Hp
  | [] => ⟨.nil, n⟩
  | x :: r => (hpOf n r).put x.1 (some x.2)

theorem hpOf_next (n : Nat) : ∀ l : List (Nat × Ob), (hpOf n l).next = n
  | [] => rfl
  | x :: r => by simp [hpOf, hpOf_next n r]

theorem hpOf_get (n : Nat) : ∀ {l : List (Nat × Ob)} {b : Nat} {o : Ob}, (hpOf n l).get b = some o → (b, o) ∈ l := by
  intro l
  induction l with
  | nil => intro b o h; simp [hpOf, Hp.get, Tr.get_nil] at h
  | cons x l ih =>
    intro b o h
    unfold hpOf at h
    rw [Hp.get_put] at h
    split at h
    · rename_i hb; cases h; subst hb; simp
    · exact List.mem_cons_of_mem _ (ih h)

/-- Rows that bear no address, as a list. -/
def flatRows (n : Nat) (l : List (Nat × (List Value × TypeId))) : Bool := l.all fun x => Nat.blt x.1 n && x.2.1.all (flat 8)

def rowsOf (l : List (Nat × (List Value × TypeId))) : List (Nat × Ob) := l.map fun x => (x.1, row x.2.1 x.2.2 false)

/-- What is seen of a run: value, and that the rows are as they were. -/
def seen (l : List (Nat × Ob)) : Res (Value × Hp) → Option Value
  | .ok (v, σ) => match held σ l with
    | true => some v
    | false => none
  | .no _ => none

theorem seen_ok {l : List (Nat × Ob)} {r : Res (Value × Hp)} {v : Value} (h : seen l r = some v) : ∃ σ', r = .ok (v, σ') ∧ ∀ y ∈ l, σ'.get y.1 = some y.2 := by
  cases r with
  | no s => simp [seen] at h
  | ok x =>
    obtain ⟨u, σ'⟩ := x
    simp only [seen] at h
    split at h
    · rename_i hh
      cases h
      exact ⟨σ', rfl, held_ok hh⟩
    · cases h

/-- A run on rows makes a call known, under whatever table has the names. -/
theorem good_rows {P : Program} (T1 T2 : Tab P) (T2ok : @TabOk P T2) {O : Oracle} (henv : @Env P T2 O) {k n : Nat} {l : List (Nat × (List Value × TypeId))} {f : FuncId} {args : List Value} {v : Value} (hl : flatRows n l = true) (hbase : P.globals.size ≤ n)
    (hnm : ∀ b v, @Tab.nm P T2 b = some v → @Tab.nm P T1 b = some v ∧ b < n) (hargs : args.all (flatN n 8) = true) (hv : flatN n 8 v = true)
    (h : seen (rowsOf l) ((@go P T2 O k).call f args (hpOf n (rowsOf l))) = some v) : @Good P T1 ⟨f, args, rowsOf l, v⟩ := by
  intro F ho σ ι w args' hpart hr hfree ha
  obtain ⟨σ', h1, h2⟩ := seen_ok h
  refine rows_run T1 T2 T2ok henv ho h1 ⟨fun b o hb => ?_⟩ (by rw [hpOf_next]; exact hbase) (by rw [hpOf_next]; exact hnm) (by rw [hpOf_next]; exact hargs) (by rw [hpOf_next]; exact hv) (fun b o hb => h2 _ (hpOf_get n hb)) (fun b o hb => hpart _ (hpOf_get n hb)) hr ha
  have hm := hpOf_get n hb
  unfold rowsOf at hm
  obtain ⟨x, hx, e⟩ := List.mem_map.1 hm
  cases e
  have := List.all_eq_true.1 hl x hx
  simp only [Bool.and_eq_true] at this
  rw [hpOf_next]
  exact ⟨by simpa using this.1, _, _, rfl, this.2⟩

end Go.Cx
