/-
From a contract to the row: a slice of events that came in, each with a slice of spans.
Conditions: none; these are general lemmas, and the readings of this seat's types.
-/
import Derived.Test.YtomaldjedncjoaaC1
import Derived.Test.YtomaldjedncjoaaL12
import Derived.ChangeArms
import Derived.ChangeSlices
import Derived.KernelRfl
set_option linter.unusedVariables false
namespace Go.Proofs.Ytomaldjedncjoaa.E
open Go Go.WideShapes Go.ChangeShapes
theorem add_add' (a : Addr) (m n : Nat) : (a.add m).add n = a.add (m + n) := by
  unfold Addr.add
  by_cases hn : n = 0
  · subst hn; simp
  · by_cases hm : m = 0
    · subst hm; simp [hn]
    · simp [hn, hm, Nat.add_assoc]
theorem list_of_each {α : Type} {R : Nat → α → Prop} : ∀ n : Nat, (∀ i, i < n → ∃ y, R i y) → ∃ xs : List α, xs.length = n ∧ ∀ i y, xs[i]? = some y → R i y
  | 0, _ => ⟨[], rfl, fun i y h => by simp at h⟩
  | n + 1, h => by
    obtain ⟨xs, hl, hx⟩ := list_of_each n fun i hi => h i (by omega)
    obtain ⟨y, hy⟩ := h n (by omega)
    refine ⟨xs ++ [y], by simp [hl], fun i z hz => ?_⟩
    rcases Nat.lt_or_ge i xs.length with hi | hi
    · rw [List.getElem?_append_left hi] at hz; exact hx i z hz
    · have hie : i = n := by have := (List.getElem?_eq_some_iff.1 hz).1; simp at this; omega
      subst hie
      rw [List.getElem?_append_right hi, hl] at hz
      simp at hz; subst hz; exact hy
theorem cells_get {w : World} {a : Addr} {n : Nat} {cs : List Value} (h : w.cells? 0 a n = some cs) {r : Nat} {v : Value} (hr : cs[r]? = some v) : w.cell? (a.add r) = some v := by
  unfold World.cells? at h
  rw [if_pos (Nat.zero_le _)] at h
  have hl := mapM_some_length h
  have hrn : r < n := by have := (List.getElem?_eq_some_iff.1 hr).1; simp at hl; omega
  have := mapM_some_get h r r (by simp [hrn])
  rw [this]; exact hr
section
variable {H : Type} {enc : TypeId × Value → H} {P : Program} {w : World} {spare : Nat → Bool} {held : Bool} {α : Type}
/-- A slice whose elements are read by a decoder. -/
theorem open_row {t e : TypeId} {fuel : Nat} {a : Option Addr} {len cap : Nat} {x : DataW H × List MemPlace} {τ : Ty α} {Q : α → Prop} (ht : P.underlying t = some (.slice e)) (hc : P.cellsOf e = τ.sz) (hz : 0 < τ.sz)
    (hdec : ∀ n cs y, DataW.trod enc P w 0 spare held n e cs = some y → ∃ z, cs = τ.enc z ∧ Q z) (h : DataW.trod enc P w 0 spare held fuel t [.slice a len cap] = some x) :
    ∃ xs : List α, xs.length = len ∧ (ro a τ xs).ok (hp w) ∧ ∀ y ∈ xs, Q y := by
  rcases DataW.trod_slice ht h with ⟨hcs, _⟩ | ⟨b, l, c, elems, rest, n, _, hcs, _, _, _, _, hlen, hel, _, _⟩
  · simp at hcs
    obtain ⟨rfl, rfl, rfl⟩ := hcs
    exact ⟨[], rfl, .inl rfl, fun y hy => by cases hy⟩
  · simp at hcs
    obtain ⟨rfl, rfl, rfl⟩ := hcs
    obtain ⟨xs, hl, hx⟩ := list_of_each (R := fun i z => w.cells? 0 (b.add (i * τ.sz)) τ.sz = some (τ.enc z) ∧ Q z) len fun i hi => by
      have h1 := hel i hi
      have h2 : ∃ y, elems[i]? = some y := ⟨_, List.getElem?_eq_getElem (by omega)⟩
      obtain ⟨y, hy⟩ := h2
      rw [hy, Option.bind_eq_some_iff] at h1
      obtain ⟨cs, hcs, hy'⟩ := h1
      obtain ⟨z, rfl, hq⟩ := hdec _ _ _ hy'
      rw [hc] at hcs
      exact ⟨z, hcs, hq⟩
    refine ⟨xs, hl, ro_of_at (fun j v hj => ?_) hz, fun y hy => ?_⟩
    · have hjl := (List.getElem?_eq_some_iff.1 hj).1
      rw [flat_length] at hjl
      have hk : j / τ.sz < xs.length := Nat.div_lt_of_lt_mul (by rw [Nat.mul_comm]; exact hjl)
      have hjs : j / τ.sz * τ.sz + j % τ.sz = j := by rw [Nat.mul_comm]; exact Nat.div_add_mod j τ.sz
      have hr : j % τ.sz < τ.sz := Nat.mod_lt _ hz
      obtain ⟨y, hy⟩ : ∃ y, xs[j / τ.sz]? = some y := ⟨_, List.getElem?_eq_getElem hk⟩
      rw [← hjs, flat_get τ xs _ _ y hy hr] at hj
      have := cells_get (hx _ y hy).1 hj
      rw [add_add', hjs] at this
      exact this
    · obtain ⟨i, hi⟩ := List.mem_iff_getElem?.1 hy
      exact (hx i y hi).2
theorem one_cell {cs : List Value} {o : Nat} {v : Value} (h : (cs.drop o).take 1 = [v]) : cs[o]? = some v := by
  have : ((cs.drop o).take 1)[0]? = some v := by rw [h]; rfl
  simpa using this
end
section
variable {H : Type} {enc : TypeId × Value → H} {w : World} {spare : Nat → Bool} {held : Bool}
theorem fld {fs : Array Field} {n : Nat} {cs : List Value} {xs : List (DataW H × List MemPlace)} (hl : xs.length = fs.size) (h : ∀ (i : Nat) (f : Field), fs[i]? = some f → DataW.trod enc Try.prog w 0 spare held n f.type ((cs.drop f.offset).take (Try.prog.cellsOf f.type)) = xs[i]?) {i : Nat} {f : Field} (hf : fs[i]? = some f) :
    ∃ y, DataW.trod enc Try.prog w 0 spare held n f.type ((cs.drop f.offset).take (Try.prog.cellsOf f.type)) = some y := by
  have hi : i < xs.length := by rw [hl]; exact (Array.getElem?_eq_some_iff.1 hf).1
  exact ⟨xs[i], by rw [h i f hf, List.getElem?_eq_getElem hi]⟩
theorem read_span {n : Nat} {cs : List Value} {y : DataW H × List MemPlace} (h : DataW.trod enc Try.prog w 0 spare held n 42 cs = some y) : ∃ z : Sp, cs = tSp.enc z ∧ True := by
  obtain ⟨xs, m, _, _, hc, hl, hx⟩ := DataW.trod_struct Try.underlying42 h
  have hcl : cs.length = 2 := hc.trans (by kernel_rfl)
  obtain ⟨y0, h0⟩ := fld hl hx (i := 0) rfl
  obtain ⟨y1, h1⟩ := fld hl hx (i := 1) rfl
  obtain ⟨n0, e0, _, _⟩ := DataW.trod_int Try.underlying3 h0
  obtain ⟨n1, e1, _, _⟩ := DataW.trod_int Try.underlying3 h1
  have k0 := one_cell (show (cs.drop 0).take 1 = _ from e0)
  have k1 := one_cell (show (cs.drop 1).take 1 = _ from e1)
  match cs, hcl, k0, k1 with
  | [a, b], _, k0, k1 =>
    simp at k0 k1; subst k0; subst k1
    exact ⟨⟨n0, n1⟩, rfl, trivial⟩
theorem read_event {n : Nat} {cs : List Value} {y : DataW H × List MemPlace} (h : DataW.trod enc Try.prog w 0 spare held n 41 cs = some y) : ∃ z : Ev, cs = tEv.enc z ∧ (ro z.sad tSp z.spans).ok (hp w) := by
  obtain ⟨xs, m, _, _, hc, hl, hx⟩ := DataW.trod_struct Try.underlying41 h
  have hcl : cs.length = 7 := hc.trans (by kernel_rfl)
  obtain ⟨y0, h0⟩ := fld hl hx (i := 0) rfl
  obtain ⟨y1, h1⟩ := fld hl hx (i := 1) rfl
  obtain ⟨y2, h2⟩ := fld hl hx (i := 2) rfl
  obtain ⟨y3, h3⟩ := fld hl hx (i := 3) rfl
  obtain ⟨y4, h4⟩ := fld hl hx (i := 4) rfl
  obtain ⟨y5, h5⟩ := fld hl hx (i := 5) rfl
  obtain ⟨y6, h6⟩ := fld hl hx (i := 6) rfl
  obtain ⟨n0, e0, _, _⟩ := DataW.trod_int Try.underlying3 h0
  obtain ⟨n1, e1, _, _⟩ := DataW.trod_int Try.underlying3 h1
  obtain ⟨n2, e2, _, _⟩ := DataW.trod_int Try.underlying3 h2
  obtain ⟨b3, e3, _⟩ := DataW.trod_bool Try.underlying4 h3
  obtain ⟨n5, e5, _, _⟩ := DataW.trod_int Try.underlying3 h5
  obtain ⟨n6, e6, _, _⟩ := DataW.trod_int Try.underlying3 h6
  have k0 := one_cell (show (cs.drop 0).take 1 = _ from e0)
  have k1 := one_cell (show (cs.drop 1).take 1 = _ from e1)
  have k2 := one_cell (show (cs.drop 2).take 1 = _ from e2)
  have k3 := one_cell (show (cs.drop 3).take 1 = _ from e3)
  have k5 := one_cell (show (cs.drop 5).take 1 = _ from e5)
  have k6 := one_cell (show (cs.drop 6).take 1 = _ from e6)
  have h4' : DataW.trod enc Try.prog w 0 spare held m 39 ((cs.drop 4).take 1) = some y4 := h4
  match cs, hcl, k0, k1, k2, k3, k5, k6, h4' with
  | [a, b, c, d, v, e, f], _, k0, k1, k2, k3, k5, k6, h4' =>
    simp at k0 k1 k2 k3 k5 k6
    subst k0; subst k1; subst k2; subst k3; subst k5; subst k6
    have hv : ∃ sad len cap, v = .slice sad len cap := by
      rcases DataW.trod_slice Try.underlying39 h4' with ⟨hcs, _⟩ | ⟨b, l, c, _, _, _, _, hcs, _⟩
      · simp at hcs; exact ⟨_, _, _, hcs⟩
      · simp at hcs; exact ⟨_, _, _, hcs⟩
    obtain ⟨sad, len, cap, rfl⟩ := hv
    obtain ⟨sp, hsl, hro, _⟩ := open_row (τ := tSp) (Q := fun _ => True) Try.underlying39 (by kernel_rfl) (Nat.succ_pos _) (fun _ _ _ hh => read_span hh) h4'
    subst hsl
    exact ⟨⟨n0, n1, n2, b3, sad, cap, sp, n5, n6⟩, rfl, hro⟩
theorem read_events {a : Option Addr} {len cap : Nat} {d : DataW H} {p : List MemPlace} (h : DataW.Trod enc Try.prog w 0 spare held 37 (.slice a len cap) d p) : ∃ evs : List Ev, evs.length = len ∧ ∀ x ∈ evsH a evs, x.ok (hp w) := by
  obtain ⟨fuel, hf⟩ := h
  obtain ⟨evs, hl, hro, hq⟩ := open_row (τ := tEv) (Q := fun z => (ro z.sad tSp z.spans).ok (hp w)) Try.underlying37 (by kernel_rfl) (Nat.succ_pos _) (fun _ _ _ hh => read_event hh) (a := a) (len := len) (cap := cap) (by simpa [Value.cells] using hf)
  refine ⟨evs, hl, fun x hx => ?_⟩
  rcases List.mem_cons.1 hx with rfl | hx
  · exact hro
  · obtain ⟨v, hv, rfl⟩ := List.mem_map.1 hx
    exact hq v hv
end
end Go.Proofs.Ytomaldjedncjoaa.E
