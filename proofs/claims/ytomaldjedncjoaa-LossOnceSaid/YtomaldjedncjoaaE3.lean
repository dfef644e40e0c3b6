/-
The walk's third part: blocks of cells and rows; one lemma an operation.
Conditions: none; these are general lemmas.
-/
import Derived.Test.YtomaldjedncjoaaE2
import Derived.IntWalk
set_option linter.unusedVariables false
set_option linter.unusedSimpArgs false
namespace Go.Proofs.Ytomaldjedncjoaa.E
open Go

/-! ### What is known of types -/
def tSc (P : Program) (t : TypeId) : Bool := match P.underlying t with | some (.struct _) | some (.array _ _) | none => false | some _ => true
def tAg (P : Program) (t : TypeId) : Bool := match P.underlying t with | some (.struct _) | some (.array _ _) => true | _ => false
def tSz (P : Program) (t : TypeId) : Option (Nat × Nat) := (P.info? t).map fun i => (i.size, i.bytes)
def tZr (P : Program) (t : TypeId) : Option (List Value) := (P.info? t).bind fun i => i.zero.map fun v => v.cells.toList
def tFO (P : Program) (s : TypeId) (f : Nat) : Option (Nat × Option (Nat × Nat)) := match P.underlying s with | some (.struct fs) => (fs[f]?).map fun fd => (fd.offset, tSz P fd.type) | _ => none
def tSl (P : Program) (t : TypeId) : Option (TypeId × Option (Nat × Nat)) := match P.underlying t with | some (.slice e) => some (e, tSz P e) | _ => none
def tPt (P : Program) (t : TypeId) : Bool := match P.underlying t with | some (.pointer _) => true | _ => false
def fOk (P : Program) (f : FuncId) : Option Bool := (P.funcs[f]?).map fun fn => !fn.body.isNone && !(fn.name == "runtime.NumGoroutine")
class Sc (P : Program) (t : TypeId) : Prop where
  a : tSc P t = true
  b : (tSz P t).map (·.1) = some 1
class Ag (P : Program) (t : TypeId) (n : outParam Nat) : Prop where
  a : tAg P t = true
  b : (tSz P t).map (·.1) = some n
class Zr (P : Program) (t : TypeId) (z : outParam (List Value)) : Prop where
  a : tZr P t = some z
class FO (P : Program) (s : TypeId) (f : Nat) (off : outParam Nat) : Prop where
  a : ∃ n b, tFO P s f = some (off, some (n + 1, b))
class SlT (P : Program) (t : TypeId) (e : outParam TypeId) (sz : outParam Nat) (by_ : outParam Nat) : Prop where
  a : tSl P t = some (e, some (sz, by_))
  nz : 0 < sz ∧ 0 < by_
class PtT (P : Program) (t : TypeId) : Prop where
  a : tPt P t = true
class Fnc (P : Program) (f : FuncId) : Prop where
  a : fOk P f = some true
class IntT (P : Program) (t : TypeId) (k : outParam IntKind) : Prop where
  a : P.underlying t = some (.int k)
theorem Sc.u {P : Program} {t : TypeId} (h : Sc P t) : ∃ u, P.underlying t = some u ∧ (match u with | .struct _ | .array _ _ => False | _ => True) := by
  have := h.a
  unfold tSc at this
  cases hu : P.underlying t with
  | none => simp [hu] at this
  | some u => refine ⟨u, rfl, ?_⟩; rw [hu] at this; cases u <;> simp at this <;> trivial
theorem tSz_of {P : Program} {t n : Nat} (h : (tSz P t).map (·.1) = some n) : ∃ i, P.info? t = some i ∧ i.size = n := by
  unfold tSz at h
  cases hi : P.info? t with
  | none => simp [hi] at h
  | some i => exact ⟨i, rfl, by simpa [hi] using h⟩
theorem Sc.i {P : Program} {t : TypeId} (h : Sc P t) : ∃ i, P.info? t = some i ∧ i.size = 1 := tSz_of h.b
theorem Ag.u {P : Program} {t : TypeId} {n : Nat} (h : Ag P t n) : ∃ u, P.underlying t = some u ∧ (match u with | .struct _ | .array _ _ => True | _ => False) := by
  have := h.a
  unfold tAg at this
  cases hu : P.underlying t with
  | none => simp [hu] at this
  | some u => refine ⟨u, rfl, ?_⟩; rw [hu] at this; cases u <;> simp at this <;> trivial
theorem Ag.i {P : Program} {t : TypeId} {n : Nat} (h : Ag P t n) : ∃ i, P.info? t = some i ∧ i.size = n := tSz_of h.b
theorem Zr.z {P : Program} {t : TypeId} {z : List Value} (h : Zr P t z) : ∃ i v, P.info? t = some i ∧ i.zero = some v ∧ v.cells = z.toArray := by
  have := h.a
  unfold tZr at this
  cases hi : P.info? t with
  | none => simp [hi] at this
  | some i =>
    rw [hi, Option.bind_some] at this
    cases hz : i.zero with
    | none => simp [hz] at this
    | some v => exact ⟨i, v, rfl, hz, by simp [hz] at this; rw [← this]⟩
theorem FO.f {P : Program} {s : TypeId} {f off : Nat} (h : FO P s f off) : ∃ fs fd i, P.underlying s = some (.struct fs) ∧ fs[f]? = some fd ∧ fd.offset = off ∧ P.info? fd.type = some i ∧ i.size ≠ 0 := by
  obtain ⟨n, b, h⟩ := h.a
  unfold tFO at h
  split at h
  · rename_i fs hu
    cases hf : fs[f]? with
    | none => simp [hf] at h
    | some fd =>
      simp only [hf, Option.map_some, Option.some.injEq, Prod.mk.injEq] at h
      obtain ⟨h1, h2⟩ := h
      unfold tSz at h2
      cases hi : P.info? fd.type with
      | none => simp [hi] at h2
      | some i => simp [hi] at h2; exact ⟨fs, fd, i, hu, hf, h1, hi, by omega⟩
  · cases h
theorem SlT.s {P : Program} {t e : TypeId} {sz by_ : Nat} (h : SlT P t e sz by_) : P.underlying t = some (.slice e) ∧ ∃ i, P.info? e = some i ∧ i.size = sz ∧ i.bytes = by_ := by
  have := h.a
  unfold tSl at this
  split at this
  · rename_i e' hu
    simp only [Option.some.injEq, Prod.mk.injEq] at this
    obtain ⟨rfl, h2⟩ := this
    unfold tSz at h2
    cases hi : P.info? e' with
    | none => simp [hi] at h2
    | some i => simp [hi] at h2; exact ⟨hu, i, rfl, h2⟩
  · cases this
theorem PtT.p {P : Program} {t : TypeId} (h : PtT P t) : ∃ el, P.underlying t = some (.pointer el) := by
  have := h.a
  unfold tPt at this
  split at this
  · rename_i el hu; exact ⟨el, hu⟩
  · cases this
theorem Fnc.f {P : Program} {f : FuncId} (h : Fnc P f) : ∃ fn, P.funcs[f]? = some fn ∧ fn.body.isNone = false ∧ (fn.name == "runtime.NumGoroutine") = false := by
  have := h.a
  unfold fOk at this
  cases hf : P.funcs[f]? with
  | none => simp [hf] at this
  | some fn => refine ⟨fn, rfl, ?_⟩; simpa [hf] using this

section
variable {P : Program} (w : World)
theorem run_isAgg_sc (t : TypeId) [h : Sc P t] : (isAgg t).run P w = .ok false w := by
  obtain ⟨u, hu, hn⟩ := h.u
  simp only [isAgg, underlying, Sem.run_bind, run_program, Result.andThen_ok, hu]
  cases u <;> simp at hn <;> simp
theorem run_isAgg_ag (t : TypeId) {n : Nat} [h : Ag P t n] : (isAgg t).run P w = .ok true w := by
  obtain ⟨u, hu, hn⟩ := h.u
  simp only [isAgg, underlying, Sem.run_bind, run_program, Result.andThen_ok, hu]
  cases u <;> simp at hn <;> simp
theorem run_sizeOf_of {t : TypeId} {i : TypeInfo} (h : P.info? t = some i) : (sizeOf t).run P w = .ok i.size w := by
  simp [sizeOf, typeInfo, h]
theorem run_sizeOf_sc (t : TypeId) [h : Sc P t] : (sizeOf t).run P w = .ok 1 w := by
  obtain ⟨i, hi, hs⟩ := h.i
  rw [run_sizeOf_of w hi, hs]
theorem run_sizeOf_ag (t : TypeId) {n : Nat} [h : Ag P t n] : (sizeOf t).run P w = .ok n w := by
  obtain ⟨i, hi, hs⟩ := h.i
  rw [run_sizeOf_of w hi, hs]
theorem run_zero (t : TypeId) {z : List Value} [h : Zr P t z] : ∃ v, (zeroValue t).run P w = .ok v w ∧ v.cells = z.toArray := by
  obtain ⟨i, v, hi, hv, hz⟩ := h.z
  exact ⟨v, by simp [zeroValue, typeInfo, hi, hv], hz⟩
end

/-! ### Picking a resource out of the heap -/
inductive Sel : Heap → Res → Heap → Prop
  | head (x : Res) (R : Heap) : Sel (x :: R) x R
  | tail {L : Heap} {x : Res} {R : Heap} (y : Res) (h : Sel L x R) : Sel (y :: L) x (y :: R)
theorem Sel.perm {L : Heap} {x : Res} {R : Heap} (h : Sel L x R) : L.Perm ([x] ++ R) := by
  induction h with
  | head x R => exact List.Perm.refl _
  | tail y h ih => exact (List.Perm.cons y ih).trans (List.Perm.swap _ _ _)
theorem Sel.mem {L : Heap} {x : Res} {R : Heap} (h : Sel L x R) : x ∈ L := h.perm.mem_iff.2 (by simp)
section
variable {x y0 y1 y2 y3 y4 y5 y6 y7 y8 y9 y10 : Res} {R : Heap}
theorem sel0 : Sel (x :: R) x (R) := .head _ _
theorem sel1 : Sel (y0 :: x :: R) x (y0 :: R) := .tail _ (.head _ _)
theorem sel2 : Sel (y0 :: y1 :: x :: R) x (y0 :: y1 :: R) := .tail _ (.tail _ (.head _ _))
theorem sel3 : Sel (y0 :: y1 :: y2 :: x :: R) x (y0 :: y1 :: y2 :: R) := .tail _ (.tail _ (.tail _ (.head _ _)))
theorem sel4 : Sel (y0 :: y1 :: y2 :: y3 :: x :: R) x (y0 :: y1 :: y2 :: y3 :: R) := .tail _ (.tail _ (.tail _ (.tail _ (.head _ _))))
theorem sel5 : Sel (y0 :: y1 :: y2 :: y3 :: y4 :: x :: R) x (y0 :: y1 :: y2 :: y3 :: y4 :: R) := .tail _ (.tail _ (.tail _ (.tail _ (.tail _ (.head _ _)))))
theorem sel6 : Sel (y0 :: y1 :: y2 :: y3 :: y4 :: y5 :: x :: R) x (y0 :: y1 :: y2 :: y3 :: y4 :: y5 :: R) := .tail _ (.tail _ (.tail _ (.tail _ (.tail _ (.tail _ (.head _ _))))))
theorem sel7 : Sel (y0 :: y1 :: y2 :: y3 :: y4 :: y5 :: y6 :: x :: R) x (y0 :: y1 :: y2 :: y3 :: y4 :: y5 :: y6 :: R) := .tail _ (.tail _ (.tail _ (.tail _ (.tail _ (.tail _ (.tail _ (.head _ _)))))))
theorem sel8 : Sel (y0 :: y1 :: y2 :: y3 :: y4 :: y5 :: y6 :: y7 :: x :: R) x (y0 :: y1 :: y2 :: y3 :: y4 :: y5 :: y6 :: y7 :: R) := .tail _ (.tail _ (.tail _ (.tail _ (.tail _ (.tail _ (.tail _ (.tail _ (.head _ _))))))))
theorem sel9 : Sel (y0 :: y1 :: y2 :: y3 :: y4 :: y5 :: y6 :: y7 :: y8 :: x :: R) x (y0 :: y1 :: y2 :: y3 :: y4 :: y5 :: y6 :: y7 :: y8 :: R) := .tail _ (.tail _ (.tail _ (.tail _ (.tail _ (.tail _ (.tail _ (.tail _ (.tail _ (.head _ _)))))))))
theorem sel10 : Sel (y0 :: y1 :: y2 :: y3 :: y4 :: y5 :: y6 :: y7 :: y8 :: y9 :: x :: R) x (y0 :: y1 :: y2 :: y3 :: y4 :: y5 :: y6 :: y7 :: y8 :: y9 :: R) := .tail _ (.tail _ (.tail _ (.tail _ (.tail _ (.tail _ (.tail _ (.tail _ (.tail _ (.tail _ (.head _ _))))))))))
theorem sel11 : Sel (y0 :: y1 :: y2 :: y3 :: y4 :: y5 :: y6 :: y7 :: y8 :: y9 :: y10 :: x :: R) x (y0 :: y1 :: y2 :: y3 :: y4 :: y5 :: y6 :: y7 :: y8 :: y9 :: y10 :: R) := .tail _ (.tail _ (.tail _ (.tail _ (.tail _ (.tail _ (.tail _ (.tail _ (.tail _ (.tail _ (.tail _ (.head _ _)))))))))))
end
/-- Several, one behind the other. -/
inductive SelL : Heap → Heap → Heap → Prop
  | nil (L : Heap) : SelL L [] L
  | cons {L : Heap} {x : Res} {R : Heap} {A R' : Heap} (h : Sel L x R) (k : SelL R A R') : SelL L (x :: A) R'
theorem SelL.perm {L A R : Heap} (h : SelL L A R) : L.Perm (A ++ R) := by
  induction h with
  | nil L => exact List.Perm.refl _
  | cons h k ih => exact h.perm.trans (List.Perm.cons _ ih)

/-! ### A block of cells -/
def blk (b : Nat) (T : TypeId) (cs : List Value) : Res where
  W := fun x => x = b
  R := fun _ => False
  ok := fun h => h b = some (.cells cs.toArray T (0, 0))
  loc := fun h h' hh ho => by rw [hh b (.inl rfl)]; exact ho
  bnd := fun h ho x hx => by rcases hx with rfl | hx; rw [ho]; simp; exact hx.elim
theorem Holds.blk {w : World} {b : Nat} {T : TypeId} {cs : List Value} {L : Heap} (h : ∀ x ∈ L, x.ok (hp w)) (hm : blk b T cs ∈ L) : w.heap[b]? = some (.cells cs.toArray T (0, 0)) := h _ hm
theorem cell_blk {w : World} {b : Nat} {T : TypeId} {cs : List Value} (h : w.heap[b]? = some (.cells cs.toArray T (0, 0))) (j : Nat) : w.cell? ⟨b, j, none⟩ = cs[j]? := by
  simp [World.cell?, h]
theorem frozen_blk {w : World} {b : Nat} {T : TypeId} {cs : List Value} (h : w.heap[b]? = some (.cells cs.toArray T (0, 0))) (j : Nat) : w.frozen? ⟨b, j, none⟩ = false := by
  simp [World.frozen?, h]
def putB (w : World) (b : Nat) (o : Obj) : World := { w with heap := w.heap.setIfInBounds b o }
theorem hp_putB {w : World} {b : Nat} (o : Obj) (h : b < w.heap.size) (x : Nat) : hp (putB w b o) x = if x = b then some o else hp w x := by
  simp only [hp, putB, Array.getElem?_setIfInBounds]
  by_cases hx : b = x
  · subst hx; simp [h]
  · rw [if_neg hx, if_neg (Ne.symm hx)]
/-- One block is written: from one resource over it to another. -/
theorem tr_putB {w : World} {x y : Res} {b : Nat} (o : Obj) (hb : b < w.heap.size) (hx : ∀ c, x.W c ↔ c = b) (hy : ∀ c, y.W c ↔ c = b) (hyr : ∀ c, ¬ y.R c) (hok : y.ok (hp (putB w b o))) : Tr w [x] (putB w b o) [y] := by
  refine ⟨fun z hz => ?_, List.pairwise_singleton _ _, rfl, rfl, rfl, by simp [putB], fun c hc hn => ?_, fun z hz c hc => ?_, fun z hz c hc => ?_⟩
  · obtain rfl := List.mem_singleton.1 hz; exact hok
  · rw [hp_putB o hb, if_neg]
    rintro rfl
    exact hn ⟨x, by simp, (hx _).2 rfl⟩
  · obtain rfl := List.mem_singleton.1 hz
    exact .inl ⟨x, by simp, (hx _).2 ((hy _).1 hc)⟩
  · obtain rfl := List.mem_singleton.1 hz; exact (hyr _ hc).elim
theorem tr_blk {w : World} {b : Nat} {T : TypeId} {cs cs' : List Value} (h : w.heap[b]? = some (.cells cs.toArray T (0, 0))) : Tr w [blk b T cs] (putB w b (.cells cs'.toArray T (0, 0))) [blk b T cs'] := by
  have hb : b < w.heap.size := hp_lt (w := w) (b := b) (by simp [hp, h])
  refine tr_putB _ hb (fun c => Iff.rfl) (fun c => Iff.rfl) (fun c h => h) ?_
  show hp _ b = _
  rw [hp_putB _ hb, if_pos rfl]
theorem setCell_putB {w : World} {b : Nat} {T : TypeId} {cs : List Value} (h : w.heap[b]? = some (.cells cs.toArray T (0, 0))) (j : Nat) (v : Value) :
    w.setCell ⟨b, j, none⟩ v = putB w b (.cells (cs.set j v).toArray T (0, 0)) := by
  have hb : b < w.heap.size := hp_lt (w := w) (b := b) (by simp [hp, h])
  have he : w.heap[b] = .cells cs.toArray T (0, 0) := by
    have := h; rw [Array.getElem?_eq_getElem hb] at this; exact Option.some.inj this
  unfold World.setCell putB
  congr 1
  apply Array.ext_getElem?
  intro i
  simp only [Array.getElem?_modify, Array.getElem?_setIfInBounds]
  by_cases hi : b = i
  · subst hi; simp [he, hb]
  · simp [hi]
theorem run_storeB {P : Program} {w : World} {b : Nat} {T : TypeId} {cs : List Value} (h : w.heap[b]? = some (.cells cs.toArray T (0, 0))) {j : Nat} (hj : j < cs.length) {v : Value} (hv : v.oneCell' = true) :
    (store ⟨b, j, none⟩ v).run P w = .ok () (putB w b (.cells (cs.set j v).toArray T (0, 0))) := by
  rw [run_store P w _ v _ hv, cell_blk h, List.getElem?_eq_getElem hj]
  simp only [frozen_blk h, setCell_putB h]
  simp
def setAt (cs : List Value) (j : Nat) : List Value → List Value
  | [] => cs
  | v :: vs => setAt (cs.set j v) (j + 1) vs
theorem setAt_length (vs : List Value) : ∀ (cs : List Value) (j : Nat), (setAt cs j vs).length = cs.length := by
  induction vs with
  | nil => intro cs j; rfl
  | cons v vs ih => intro cs j; simp [setAt, ih]
theorem putB_putB (w : World) (b : Nat) (o o' : Obj) : putB (putB w b o) b o' = putB w b o' := by simp [putB]
theorem putB_self {w : World} {b : Nat} {o : Obj} (h : w.heap[b]? = some o) : putB w b o = w := by
  unfold putB
  have hb : b < w.heap.size := hp_lt (w := w) (b := b) (by simp [hp, h])
  have : w.heap.setIfInBounds b o = w.heap := by
    apply Array.ext_getElem?
    intro i
    rw [Array.getElem?_setIfInBounds]
    by_cases hi : b = i
    · subst hi; rw [if_pos rfl, if_pos hb, h]
    · simp [hi]
  rw [this]
theorem get_putB {w : World} {b : Nat} (o : Obj) (h : b < w.heap.size) : (putB w b o).heap[b]? = some o := by
  have := hp_putB o h b
  rwa [if_pos rfl] at this
theorem add_lit (b j i : Nat) : (⟨b, j, none⟩ : Addr).add i = ⟨b, j + i, none⟩ := by unfold Addr.add; split <;> simp_all
theorem run_storeCellsB {P : Program} {b : Nat} {T : TypeId} (vs : List Value) : ∀ (w : World) (cs : List Value) (j i : Nat), w.heap[b]? = some (.cells cs.toArray T (0, 0)) → j + i + vs.length ≤ cs.length → (∀ v ∈ vs, v.oneCell' = true) →
    (storeCells ⟨b, j, none⟩ vs i).run P w = .ok () (putB w b (.cells (setAt cs (j + i) vs).toArray T (0, 0))) := by
  induction vs with
  | nil => intro w cs j i h _ _; simp [storeCells, setAt, putB_self h]
  | cons v vs ih =>
    intro w cs j i h hl hv
    have hb : b < w.heap.size := hp_lt (w := w) (b := b) (by simp [hp, h])
    simp only [List.length_cons] at hl
    simp only [storeCells, Sem.run_bind, add_lit]
    rw [run_storeB h (by omega) (hv v (by simp))]
    simp only [Result.andThen_ok]
    rw [ih _ (cs.set (j + i) v) j (i + 1) (get_putB _ hb) (by simp; omega) (fun v hv' => hv v (by simp [hv']))]
    rw [putB_putB]
    rfl
theorem run_loadB {P : Program} {w : World} {b j : Nat} {v : Value} (h : w.cell? ⟨b, j, none⟩ = some v) : (load ⟨b, j, none⟩).run P w = .ok v w := by
  rw [run_load, h]
theorem run_loadCellsB {P : Program} {w : World} {b j : Nat} (vs : List Value) : ∀ (i : Nat) (acc : Array Value), (∀ k v, vs[k]? = some v → w.cell? ⟨b, j + i + k, none⟩ = some v) →
    (loadCellsFrom ⟨b, j, none⟩ i vs.length acc).run P w = .ok (acc ++ vs.toArray) w := by
  induction vs with
  | nil => intro i acc _; simp [loadCellsFrom]
  | cons v vs ih =>
    intro i acc h
    have h0 := h 0 v rfl
    simp only [List.length_cons, loadCellsFrom, Sem.run_bind, add_lit]
    rw [run_loadB (by simpa using h0)]
    simp only [Result.andThen_ok]
    rw [ih (i + 1) (acc.push v) (fun k u hk => by have := h (k + 1) u (by simpa using hk); rw [show j + (i + 1) + k = j + i + (k + 1) by omega]; exact this)]
    simp

/-! ### New blocks -/
theorem hp_push (w : World) (o : Obj) (x : Nat) : hp { w with heap := w.heap.push o } x = if x = w.heap.size then some o else hp w x := by
  simp only [hp, Array.getElem?_push]
theorem tr_new {w : World} {y : Res} (o : Obj) (hy : ∀ c, y.W c ↔ c = w.heap.size) (hyr : ∀ c, ¬ y.R c) (hok : y.ok (hp { w with heap := w.heap.push o })) : Tr w [] { w with heap := w.heap.push o } [y] := by
  refine ⟨fun z hz => ?_, List.pairwise_singleton _ _, rfl, rfl, rfl, by simp, fun c hc hn => ?_, fun z hz c hc => ?_, fun z hz c hc => ?_⟩
  · obtain rfl := List.mem_singleton.1 hz; exact hok
  · rw [hp_push, if_neg (by omega)]
  · obtain rfl := List.mem_singleton.1 hz
    exact .inr (by rw [(hy _).1 hc]; exact Nat.le_refl _)
  · obtain rfl := List.mem_singleton.1 hz; exact (hyr _ hc).elim
theorem tr_newBlk (w : World) (T : TypeId) (cs : List Value) : Tr w [] { w with heap := w.heap.push (.cells cs.toArray T (0, 0)) } [blk w.heap.size T cs] :=
  tr_new _ (fun c => Iff.rfl) (fun c h => h) (by show hp _ _ = _; rw [hp_push, if_pos rfl])
theorem holds_nil (w : World) : Holds w [] := ⟨fun x hx => absurd hx (by simp), List.Pairwise.nil⟩

/-! ### The operations -/
/-- It only reads, and yields a value in whatever world. -/
structure Rd (P : Program) (G : Cx) (o : Oper) (v : Value) (e : Env) (L : Heap) : Prop where
  g : o.guard = none
  d : ∀ c, o.op ≠ .defer c
  out : ∀ w, Tr G.w0 G.A0 w L → (execOp (ev e) o).run P w = .ok (.value v) w
theorem st_rd {P : Program} {G : Cx} {ops : Array Oper} {Q : Po} {D : List Deferred} {e : Env} {L : Heap} {K : Ko} {d : Nat} {op : Op} {ty : TypeId} {pos : String} {af : Array Edge} {g : Option (Nat × Bool)} {v : Value}
    (h : Rd P G ⟨some d, op, ty, pos, af, g⟩ v e L) (k : K D (upd e d v) L) : OpK P G ops Q ⟨some d, op, ty, pos, af, g⟩ K D e L :=
  opk_val h.g h.d h.out k
section
variable {P : Program} {G : Cx} {ops : Array Oper} {Q : Po} {D : List Deferred} {e : Env} {L : Heap} {K : Ko} {ty : TypeId} {pos : String} {af : Array Edge} {d : Nat}

theorem rd_move {x : Operand} {v : Value} (hv : ev e x = v) : Rd P G ⟨some d, .move x, ty, pos, af, none⟩ (v) e L :=
  ⟨rfl, (fun c => by simp), fun w _ => by simp [execOp, hv]⟩
theorem rd_assign {x : Operand} {v : Value} (hv : ev e x = v) : Rd P G ⟨some d, .assign x, ty, pos, af, none⟩ (v) e L :=
  ⟨rfl, (fun c => by simp), fun w _ => by simp [execOp, hv]⟩
theorem rd_pick_t {c x y : Operand} {v : Value} (hc : ev e c = .bool true) (hv : ev e x = v) : Rd P G ⟨some d, .pick c x y, ty, pos, af, none⟩ (v) e L :=
  ⟨rfl, (fun c => by simp), fun w _ => by simp [execOp, hc, hv, asBool]⟩
theorem rd_pick_f {c x y : Operand} {v : Value} (hc : ev e c = .bool false) (hv : ev e y = v) : Rd P G ⟨some d, .pick c x y, ty, pos, af, none⟩ (v) e L :=
  ⟨rfl, (fun c => by simp), fun w _ => by simp [execOp, hc, hv, asBool]⟩
theorem rd_nilCheck {x : Operand} {a : Addr} (hv : ev e x = .pointer (some a)) : Rd P G ⟨some d, .nilCheck x, ty, pos, af, none⟩ ((.pointer (some a))) e L :=
  ⟨rfl, (fun c => by simp), fun w _ => by simp [execOp, hv]⟩
theorem rd_makeFunc {f : FuncId} {caps : List Operand} {cv : List Value} (hv : caps.map (ev e) = cv) : Rd P G ⟨some d, .makeFunc (.func f) #[] caps.toArray, ty, pos, af, none⟩ (.func (.func f) #[] cv.toArray) e L :=
  ⟨rfl, (fun c => by simp), fun w _ => by simp [execOp, Instr.makeFunc, hv]⟩
theorem rd_extract {x : Operand} {i : Nat} {vs : Array Value} {v : Value} (hx : ev e x = .tuple vs) (hv : vs[i]? = some v) : Rd P G ⟨some d, .extract x i, ty, pos, af, none⟩ (v) e L :=
  ⟨rfl, (fun c => by simp), fun w _ => by simp [execOp, Instr.extract, hx, hv]⟩

theorem wrap64 {n : Int} (h0 : -9223372036854775808 ≤ n) (h1 : n ≤ 9223372036854775807) : IntKind.i64.wrap n = n := IntWalk.i64_in n ⟨h0, h1⟩
theorem wrapU64 {n : Int} (h0 : 0 ≤ n) (h1 : n ≤ 18446744073709551615) : IntKind.u64.wrap n = n := IntWalk.u64_in n ⟨h0, h1⟩
theorem wrapU8 {n : Int} (h0 : 0 ≤ n) (h1 : n ≤ 255) : IntKind.u8.wrap n = n := IntWalk.u8_in n ⟨h0, h1⟩
theorem rd_add {xt yt : TypeId} {x y : Operand} {k : IntKind} {a b c : Int} (hx : ev e x = .int k a) (hy : ev e y = .int k b) (hc : k.wrap (a + b) = c) : Rd P G ⟨some d, .binOp .add xt x y yt, ty, pos, af, none⟩ ((.int k c)) e L :=
  ⟨rfl, (fun c => by simp), fun w _ => by simp [execOp, hx, hy, eqGuard, binOp, Op.intArith, hc]⟩
theorem rd_sub {xt yt : TypeId} {x y : Operand} {k : IntKind} {a b c : Int} (hx : ev e x = .int k a) (hy : ev e y = .int k b) (hc : k.wrap (a - b) = c) : Rd P G ⟨some d, .binOp .sub xt x y yt, ty, pos, af, none⟩ ((.int k c)) e L :=
  ⟨rfl, (fun c => by simp), fun w _ => by simp [execOp, hx, hy, eqGuard, binOp, Op.intArith, hc]⟩
theorem rd_mul {xt yt : TypeId} {x y : Operand} {k : IntKind} {a b c : Int} (hx : ev e x = .int k a) (hy : ev e y = .int k b) (hc : k.wrap (a * b) = c) : Rd P G ⟨some d, .binOp .mul xt x y yt, ty, pos, af, none⟩ ((.int k c)) e L :=
  ⟨rfl, (fun c => by simp), fun w _ => by simp [execOp, hx, hy, eqGuard, binOp, Op.intArith, hc]⟩
theorem rd_quo {xt yt : TypeId} {x y : Operand} {k : IntKind} {a b c : Int} (hx : ev e x = .int k a) (hy : ev e y = .int k b) (hb : b ≠ 0) (hc : k.wrap (a.tdiv b) = c) : Rd P G ⟨some d, .binOp .quo xt x y yt, ty, pos, af, none⟩ ((.int k c)) e L :=
  ⟨rfl, (fun c => by simp), fun w _ => by simp [execOp, hx, hy, eqGuard, binOp, Op.intDiv, hc, hb]⟩
theorem rd_rem {xt yt : TypeId} {x y : Operand} {k : IntKind} {a b c : Int} (hx : ev e x = .int k a) (hy : ev e y = .int k b) (hb : b ≠ 0) (hc : a.tmod b = c) : Rd P G ⟨some d, .binOp .rem xt x y yt, ty, pos, af, none⟩ ((.int k c)) e L :=
  ⟨rfl, (fun c => by simp), fun w _ => by simp [execOp, hx, hy, eqGuard, binOp, Op.intDiv, hc, hb]⟩
theorem rd_shl {xt yt : TypeId} {x y : Operand} {k k' : IntKind} {a b c : Int} (hx : ev e x = .int k a) (hy : ev e y = .int k' b) (hb : 0 ≤ b) (hc : k.wrap (a * 2 ^ (min b.toNat k.bits)) = c) : Rd P G ⟨some d, .binOp .shl xt x y yt, ty, pos, af, none⟩ ((.int k c)) e L :=
  ⟨rfl, (fun c => by simp), fun w _ => by simp [execOp, hx, hy, eqGuard, binOp, Op.shift, hc, show ¬ b < 0 by omega]⟩
theorem rd_shr {xt yt : TypeId} {x y : Operand} {k k' : IntKind} {a b c : Int} (hx : ev e x = .int k a) (hy : ev e y = .int k' b) (hb : 0 ≤ b) (hc : a.fdiv (2 ^ (min b.toNat k.bits)) = c) : Rd P G ⟨some d, .binOp .shr xt x y yt, ty, pos, af, none⟩ ((.int k c)) e L :=
  ⟨rfl, (fun c => by simp), fun w _ => by simp [execOp, hx, hy, eqGuard, binOp, Op.shift, hc, show ¬ b < 0 by omega]⟩
theorem rd_lt {xt yt : TypeId} {x y : Operand} {k : IntKind} {a b : Int} (hx : ev e x = .int k a) (hy : ev e y = .int k b) : Rd P G ⟨some d, .binOp .lss xt x y yt, ty, pos, af, none⟩ ((.bool (decide (a < b)))) e L :=
  ⟨rfl, (fun c => by simp), fun w _ => by simp [execOp, hx, hy, eqGuard, binOp, Op.intCmp]⟩
theorem rd_le {xt yt : TypeId} {x y : Operand} {k : IntKind} {a b : Int} (hx : ev e x = .int k a) (hy : ev e y = .int k b) : Rd P G ⟨some d, .binOp .leq xt x y yt, ty, pos, af, none⟩ ((.bool (decide (a ≤ b)))) e L :=
  ⟨rfl, (fun c => by simp), fun w _ => by simp [execOp, hx, hy, eqGuard, binOp, Op.intCmp]⟩
theorem rd_gt {xt yt : TypeId} {x y : Operand} {k : IntKind} {a b : Int} (hx : ev e x = .int k a) (hy : ev e y = .int k b) : Rd P G ⟨some d, .binOp .gtr xt x y yt, ty, pos, af, none⟩ ((.bool (decide (b < a)))) e L :=
  ⟨rfl, (fun c => by simp), fun w _ => by simp [execOp, hx, hy, eqGuard, binOp, Op.intCmp]⟩
theorem rd_ge {xt yt : TypeId} {x y : Operand} {k : IntKind} {a b : Int} (hx : ev e x = .int k a) (hy : ev e y = .int k b) : Rd P G ⟨some d, .binOp .geq xt x y yt, ty, pos, af, none⟩ ((.bool (decide (b ≤ a)))) e L :=
  ⟨rfl, (fun c => by simp), fun w _ => by simp [execOp, hx, hy, eqGuard, binOp, Op.intCmp]⟩
theorem rd_eq {xt yt : TypeId} {x y : Operand} {k : IntKind} {a b : Int} (hx : ev e x = .int k a) (hy : ev e y = .int k b) : Rd P G ⟨some d, .binOp .eql xt x y yt, ty, pos, af, none⟩ ((.bool (decide (a = b)))) e L :=
  ⟨rfl, (fun c => by simp), fun w _ => by simp [execOp, hx, hy, eqGuard, binOp, Op.intCmp]; rfl⟩
theorem rd_ne {xt yt : TypeId} {x y : Operand} {k : IntKind} {a b : Int} (hx : ev e x = .int k a) (hy : ev e y = .int k b) : Rd P G ⟨some d, .binOp .neq xt x y yt, ty, pos, af, none⟩ ((.bool (decide (a ≠ b)))) e L :=
  ⟨rfl, (fun c => by simp), fun w _ => by
    have : (a != b) = decide (a ≠ b) := by by_cases hab : a = b <;> simp [hab]
    simp [execOp, hx, hy, eqGuard, binOp, Op.intCmp, this]⟩
theorem rd_not {t : TypeId} {x : Operand} {p : Prop} [Decidable p] (hx : ev e x = .bool (decide p)) : Rd P G ⟨some d, .unOp .not t x, ty, pos, af, none⟩ ((.bool (decide (¬ p)))) e L :=
  ⟨rfl, (fun c => by simp), fun w _ => by simp [execOp, hx, Op.unary]⟩
theorem rd_notb {t : TypeId} {x : Operand} {b c : Bool} (hx : ev e x = .bool b) (hc : (!b) = c) : Rd P G ⟨some d, .unOp .not t x, ty, pos, af, none⟩ ((.bool c)) e L :=
  ⟨rfl, (fun c => by simp), fun w _ => by simp [execOp, hx, Op.unary, ← hc]⟩
theorem rd_neg {t : TypeId} {x : Operand} {k : IntKind} {a c : Int} (hx : ev e x = .int k a) (hc : k.wrap (0 - a) = c) : Rd P G ⟨some d, .unOp .neg t x, ty, pos, af, none⟩ ((.int k c)) e L :=
  ⟨rfl, (fun c => by simp), fun w _ => by
    have : (0 : Int) - a = -a := by omega
    simp [execOp, hx, Op.unary, Op.intArith, ← hc]⟩
theorem rd_max {x y : Operand} {k : IntKind} {a b : Int} {at_ : Array TypeId} (hx : ev e x = .int k a) (hy : ev e y = .int k b) : Rd P G ⟨some d, .call ⟨.builtin .max, #[x, y], at_⟩, ty, pos, af, none⟩ ((.int k (max a b))) e L :=
  ⟨rfl, (fun c => by simp), fun w _ => by
    have : (if b > a then b else a) = max a b := by omega
    simp [execOp, resolve, invoke, builtin, hx, hy, Builtin.max_, Builtin.max2, this]⟩
theorem rd_min {x y : Operand} {k : IntKind} {a b : Int} {at_ : Array TypeId} (hx : ev e x = .int k a) (hy : ev e y = .int k b) : Rd P G ⟨some d, .call ⟨.builtin .min, #[x, y], at_⟩, ty, pos, af, none⟩ ((.int k (min a b))) e L :=
  ⟨rfl, (fun c => by simp), fun w _ => by
    have : (if b < a then b else a) = min a b := by omega
    simp [execOp, resolve, invoke, builtin, hx, hy, Builtin.min_, Builtin.min2, this]⟩

/-! pointers to fields -/
theorem rd_fieldAddr0 {s : TypeId} {x : Operand} {f off b : Nat} [hf : FO P s f off] (hx : ev e x = .pointer (some ⟨b, 0, none⟩)) : Rd P G ⟨some d, .fieldAddr s x f, ty, pos, af, none⟩ ((.pointer (some ⟨b, off, none⟩))) e L :=
  ⟨rfl, (fun c => by simp), fun w _ => by
    obtain ⟨fs, fd, i, h1, h2, h3, h4, h5⟩ := hf.f
    simp [execOp, hx, Instr.fieldAt, underlying, h1, h2, Instr.sureAddr, fieldPlace, run_sizeOf_of w h4, h5, add_lit, h3]⟩
theorem rd_fieldAddr {s : TypeId} {x : Operand} {f off b j : Nat} [hf : FO P s f off] (hx : ev e x = .pointer (some ⟨b, j, none⟩)) : Rd P G ⟨some d, .fieldAddr s x f, ty, pos, af, none⟩ ((.pointer (some ⟨b, j + off, none⟩))) e L :=
  ⟨rfl, (fun c => by simp), fun w _ => by
    obtain ⟨fs, fd, i, h1, h2, h3, h4, h5⟩ := hf.f
    simp [execOp, hx, Instr.fieldAt, underlying, h1, h2, Instr.sureAddr, fieldPlace, run_sizeOf_of w h4, h5, add_lit, h3]⟩

/-! loads and stores of a block's cells -/
theorem rd_load {t : TypeId} {x : Operand} {b j : Nat} {T : TypeId} {cs : List Value} {R : Heap} {v : Value} [Sc P t] (hx : ev e x = .pointer (some ⟨b, j, none⟩)) (hs : Sel L (blk b T cs) R) (hv : cs[j]? = some v) : Rd P G ⟨some d, .load t x, ty, pos, af, none⟩ (v) e L :=
  ⟨rfl, (fun c => by simp), fun w hw => by
    have hb := Holds.blk hw.ok hs.mem
    simp only [execOp, hx, Instr.loadAt, Instr.sureAddr, loadVar, Sem.run_bind, Sem.run_pure, Result.andThen_ok, run_isAgg_sc, Bool.false_eq_true, if_false]
    rw [run_loadB (by rw [cell_blk hb]; exact hv)]
    simp⟩
theorem run_loadVar_ag {t : TypeId} {n : Nat} [Ag P t n] {w : World} {b j : Nat} (vs : List Value) (hn : vs.length = n) (hc : ∀ k v, vs[k]? = some v → w.cell? ⟨b, j + k, none⟩ = some v) :
    (loadVar t ⟨b, j, none⟩).run P w = .ok (.agg vs.toArray) w := by
  have := run_loadCellsB (P := P) (w := w) (b := b) (j := j) vs 0 #[] (by simpa using hc)
  rw [hn] at this
  simp only [loadVar, Sem.run_bind, run_isAgg_ag, run_sizeOf_ag, Result.andThen_ok, if_true, loadCells]
  rw [this]
  simp
theorem rd_loadA {t n : Nat} {x : Operand} {b j : Nat} {T : TypeId} {cs : List Value} {R : Heap} [Ag P t n] (vs : List Value) (hx : ev e x = .pointer (some ⟨b, j, none⟩)) (hs : Sel L (blk b T cs) R) (hv : (cs.drop j).take n = vs) (hn : vs.length = n) : Rd P G ⟨some d, .load t x, ty, pos, af, none⟩ ((.agg vs.toArray)) e L :=
  ⟨rfl, (fun c => by simp), fun w hw => by
    have hb := Holds.blk hw.ok hs.mem
    simp only [execOp, hx, Instr.loadAt, Instr.sureAddr, Sem.run_bind, Sem.run_pure, Result.andThen_ok]
    rw [run_loadVar_ag vs hn (fun k v hk => by
      rw [cell_blk hb, ← hk, ← hv]
      have hk' : k < vs.length := (List.getElem?_eq_some_iff.1 hk).1
      rw [List.getElem?_take_of_lt (by omega), List.getElem?_drop])]
    simp⟩
theorem st_store {t : TypeId} {x y : Operand} {b j : Nat} {T : TypeId} {cs : List Value} {R : Heap} {v : Value} [Sc P t] (hx : ev e x = .pointer (some ⟨b, j, none⟩)) (hy : ev e y = v) (h1 : v.oneCell' = true) (hs : Sel L (blk b T cs) R) (hj : Nat.blt j cs.length = true)
    (h : K D e (blk b T (cs.set j v) :: R)) : OpK P G ops Q ⟨none, .store t x y, ty, pos, af, none⟩ K D e L :=
  opk_stepS rfl (fun c => by simp) hs.perm fun w hw => by
    have hb := Holds.blk hw.ok (b := b) (T := T) (cs := cs) (by simp)
    refine ⟨_, _, ?_, tr_blk (cs' := cs.set j v) hb, h⟩
    have hc : v.cells = #[v] := by cases v <;> simp [Value.oneCell'] at h1 <;> rfl
    have hj' : j < cs.length := by simp [Nat.blt] at hj; omega
    simp only [execOp, hx, hy, Instr.storeAt, Instr.sureAddr, storeVar, Sem.run_bind, Sem.run_pure, Result.andThen_ok, run_sizeOf_sc, hc, List.size_toArray, List.length_singleton, ne_eq, not_true, if_false, storeCells]
    simp only [add_lit, Nat.add_zero, run_storeB hb hj' h1, Result.andThen_ok]
/-- A struct or an array is stored over the whole of a block. -/
theorem setAt_append (vs : List Value) : ∀ (pre cs : List Value), vs.length ≤ cs.length → setAt (pre ++ cs) pre.length vs = pre ++ vs ++ cs.drop vs.length := by
  induction vs with
  | nil => intro pre cs _; simp [setAt]
  | cons v vs ih =>
    intro pre cs h
    cases cs with
    | nil => simp at h
    | cons c cs =>
      simp only [List.length_cons] at h
      have := ih (pre ++ [v]) cs (by omega)
      simp only [setAt]
      rw [List.set_append_right _ _ (Nat.le_refl _), Nat.sub_self, List.set_cons_zero]
      simpa using this
theorem setAt_all {cs vs : List Value} (h : vs.length = cs.length) : setAt cs 0 vs = vs := by
  have := setAt_append vs [] cs (by omega)
  simpa [h] using this
theorem run_storeVar_ag {t : TypeId} {n : Nat} [Ag P t n] {w : World} {b j : Nat} {T : TypeId} {cs : List Value} (hb : w.heap[b]? = some (.cells cs.toArray T (0, 0))) (vs : List Value) (hn : vs.length = n) (hj : j + n ≤ cs.length) (h1 : ∀ v ∈ vs, v.oneCell' = true) :
    (storeVar t ⟨b, j, none⟩ (.agg vs.toArray)).run P w = .ok () (putB w b (.cells (setAt cs j vs).toArray T (0, 0))) := by
  have := run_storeCellsB (P := P) vs w cs j 0 hb (by omega) h1
  simp only [storeVar, Value.cells, Sem.run_bind, run_sizeOf_ag, Result.andThen_ok, List.size_toArray, hn, ne_eq, not_true, if_false]
  simpa using this
theorem st_storeA {t n : Nat} {x y : Operand} {b : Nat} {T : TypeId} {cs : List Value} {R : Heap} {vs : List Value} [Ag P t n] (hx : ev e x = .pointer (some ⟨b, 0, none⟩)) (hy : ev e y = .agg vs.toArray) (hn : vs.length = n) (h1 : vs.all (·.oneCell') = true) (hs : Sel L (blk b T cs) R) (hj : Nat.beq cs.length n = true)
    (h : K D e (blk b T vs :: R)) : OpK P G ops Q ⟨none, .store t x y, ty, pos, af, none⟩ K D e L :=
  opk_stepS rfl (fun c => by simp) hs.perm fun w hw => by
    have hb := Holds.blk hw.ok (b := b) (T := T) (cs := cs) (by simp)
    have hl : cs.length = n := Nat.eq_of_beq_eq_true hj
    refine ⟨_, _, ?_, tr_blk (cs' := vs) hb, h⟩
    simp only [execOp, hx, hy, Instr.storeAt, Instr.sureAddr, Sem.run_bind, Sem.run_pure, Result.andThen_ok]
    rw [run_storeVar_ag hb vs hn (by omega) (by simpa using h1), setAt_all (by omega)]
    simp

/-! new blocks -/
theorem st_alloc {t : TypeId} {z : List Value} [Zr P t z] (h : ∀ b, K D (upd e d (.pointer (some ⟨b, 0, none⟩))) (blk b t z :: L)) : OpK P G ops Q ⟨some d, .alloc t, ty, pos, af, none⟩ K D e L :=
  opk_step (A := []) (R := L) rfl (fun c => by simp) (List.Perm.refl _) fun w hw => by
    obtain ⟨v, hv, hz⟩ := run_zero (P := P) w t
    refine ⟨.pointer (some ⟨w.heap.size, 0, none⟩), _, _, ?_, tr_newBlk w t z, h _⟩
    simp only [execOp, Instr.alloc, Sem.run_bind, hv, Result.andThen_ok, newVar, newRow, run_newObj, Sem.run_pure, hz]
theorem st_box {t : TypeId} {x : Operand} {v : Value} (hx : ev e x = v) (hc : v.oneCell' = true) (h : ∀ b, K D (upd e d (.pointer (some ⟨b, 0, none⟩))) (blk b t [v] :: L)) : OpK P G ops Q ⟨some d, .box t x, ty, pos, af, none⟩ K D e L :=
  opk_step (A := []) (R := L) rfl (fun c => by simp) (List.Perm.refl _) fun w hw => by
    refine ⟨.pointer (some ⟨w.heap.size, 0, none⟩), _, _, ?_, tr_newBlk w t [v], h _⟩
    have hcs : v.cells = #[v] := by cases v <;> simp [Value.oneCell'] at hc <;> rfl
    simp only [execOp, hx, Instr.box, Sem.run_bind, Result.andThen_ok, newVar, newRow, run_newObj, Sem.run_pure, hcs]
theorem st_boxA {t : TypeId} {x : Operand} {vs : List Value} (hx : ev e x = .agg vs.toArray) (h : ∀ b, K D (upd e d (.pointer (some ⟨b, 0, none⟩))) (blk b t vs :: L)) : OpK P G ops Q ⟨some d, .box t x, ty, pos, af, none⟩ K D e L :=
  opk_step (A := []) (R := L) rfl (fun c => by simp) (List.Perm.refl _) fun w hw => by
    refine ⟨.pointer (some ⟨w.heap.size, 0, none⟩), _, _, ?_, tr_newBlk w t vs, h _⟩
    simp only [execOp, hx, Instr.box, Sem.run_bind, Result.andThen_ok, newVar, newRow, run_newObj, Sem.run_pure, Value.cells]

/-! calls -/
theorem run_callFunc {f : FuncId} [hf : Fnc P f] (w : World) (args : Array Value) : (callFunc f args).run P w = .ok (.enter f args) w := by
  obtain ⟨fn, h1, h2, h3⟩ := hf.f
  simp only [callFunc, Sem.run_bind, run_program, Result.andThen_ok, h1, h3, h2, Bool.false_eq_true, if_false, Sem.run_pure]
theorem st_call {f : FuncId} [Fnc P f] {args : List Operand} {at_ : Array TypeId} {av : List Value} {A R : Heap} {B : Value → Heap → Prop} (ha : args.map (ev e) = av) (hs : Spec P f av.toArray A B) (hp : SelL L A R)
    (h : ∀ v L', B v L' → K D (upd e d v) (L' ++ R)) : OpK P G ops Q ⟨some d, .call ⟨.value (.func f), args.toArray, at_⟩, ty, pos, af, none⟩ K D e L :=
  opk_call (A := A) (R := R) rfl (fun c => by simp) (fun w _ => by simp [execOp, resolve, ev, Deferred.ofValue, invoke, ha, run_callFunc]) hp.perm hs h
theorem st_call0 {f : FuncId} [Fnc P f] {args : List Operand} {at_ : Array TypeId} {av : List Value} {A R : Heap} {B : Value → Heap → Prop} (ha : args.map (ev e) = av) (hs : Spec P f av.toArray A B) (hp : SelL L A R)
    (h : ∀ v L', B v L' → K D e (L' ++ R)) : OpK P G ops Q ⟨none, .call ⟨.value (.func f), args.toArray, at_⟩, ty, pos, af, none⟩ K D e L :=
  opk_call (A := A) (R := R) rfl (fun c => by simp) (fun w _ => by simp [execOp, resolve, ev, Deferred.ofValue, invoke, ha, run_callFunc]) hp.perm hs h
theorem st_callV {f : FuncId} [Fnc P f] {x : Operand} {args : List Operand} {at_ : Array TypeId} {av caps : List Value} {A R : Heap} {B : Value → Heap → Prop} (hf : ev e x = .func (.func f) #[] caps.toArray) (ha : args.map (ev e) = av) (hs : Spec P f (av ++ caps).toArray A B) (hp : SelL L A R)
    (h : ∀ v L', B v L' → K D (upd e d v) (L' ++ R)) : OpK P G ops Q ⟨some d, .call ⟨.value x, args.toArray, at_⟩, ty, pos, af, none⟩ K D e L :=
  opk_call (A := A) (R := R) rfl (fun c => by simp) (fun w _ => by simp [execOp, resolve, hf, Deferred.ofValue, invoke, ha, run_callFunc]) hp.perm hs h
theorem st_callV0 {f : FuncId} [Fnc P f] {x : Operand} {args : List Operand} {at_ : Array TypeId} {av caps : List Value} {A R : Heap} {B : Value → Heap → Prop} (hf : ev e x = .func (.func f) #[] caps.toArray) (ha : args.map (ev e) = av) (hs : Spec P f (av ++ caps).toArray A B) (hp : SelL L A R)
    (h : ∀ v L', B v L' → K D e (L' ++ R)) : OpK P G ops Q ⟨none, .call ⟨.value x, args.toArray, at_⟩, ty, pos, af, none⟩ K D e L :=
  opk_call (A := A) (R := R) rfl (fun c => by simp) (fun w _ => by simp [execOp, resolve, hf, Deferred.ofValue, invoke, ha, run_callFunc]) hp.perm hs h

theorem run_equal_nil {t el : TypeId} (hu : P.underlying t = some (.pointer el)) (a : Option Addr) (w : World) : (Op.equal t (.pointer a) (.pointer none)).run P w = .ok a.isNone w := by
  show (Op.equalIn (9999 + 1) t (.pointer a) (.pointer none)).run P w = _
  rw [Op.equalIn]
  cases a <;> simp only [underlying, Sem.run_bind, run_program, Result.andThen_ok, hu, Sem.run_pure] <;> rfl
theorem rd_eqnil {xt yt : TypeId} {x y : Operand} {a : Option Addr} [hu : PtT P xt] (hx : ev e x = .pointer a) (hy : ev e y = .pointer none) : Rd P G ⟨some d, .binOp .eql xt x y yt, ty, pos, af, none⟩ (.bool a.isNone) e L :=
  ⟨rfl, (fun c => by simp), fun w _ => by
    obtain ⟨el, hu⟩ := hu.p
    simp only [execOp, hx, hy, eqGuard, binOp, Sem.run_bind, Sem.run_pure, Result.andThen_ok, run_equal_nil hu]
    simp [run_equal_nil hu]⟩
theorem rd_nenil {xt yt : TypeId} {x y : Operand} {a : Option Addr} [hu : PtT P xt] (hx : ev e x = .pointer a) (hy : ev e y = .pointer none) : Rd P G ⟨some d, .binOp .neq xt x y yt, ty, pos, af, none⟩ ((.bool a.isSome)) e L :=
  ⟨rfl, (fun c => by simp), fun w _ => by
    obtain ⟨el, hu⟩ := hu.p
    have : a.isSome = !a.isNone := by cases a <;> rfl
    simp only [execOp, hx, hy, eqGuard, binOp, Sem.run_bind, Sem.run_pure, Result.andThen_ok, run_equal_nil hu, this]
    simp [run_equal_nil hu]⟩
end
end Go.Proofs.Ytomaldjedncjoaa.E
