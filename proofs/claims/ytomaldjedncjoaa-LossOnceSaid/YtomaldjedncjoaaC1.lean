/-
From a contract to the row: what only reads leaves all as it was; a slice of whole numbers that came in.
Conditions: none; these are general lemmas.
-/
import Derived.Test.YtomaldjedncjoaaE12
import Derived.Below
set_option linter.unusedVariables false
namespace Go.Proofs.Ytomaldjedncjoaa.E
open Go Go.RowKit
theorem spec_below {P : Program} {f : FuncId} {args : Array Value} {A : Heap} {v : Value} {p : Heap → Prop} (h : Spec P f args A (fun v' L => v' = v ∧ p L)) (hA : ∀ x ∈ A, ∀ b, ¬ x.W b) {w : World} (hw : Holds w A) :
    Calls P f args w fun e w' => e = .returned v ∧ Below w.heap.size w w' :=
  (h w hw).mono fun r w' ⟨v', L, e, ⟨h1, _⟩, ht⟩ => ⟨by rw [e, h1], ⟨ht.os, ht.tape, ht.out, ht.size, fun b hb => ht.keep b hb fun ⟨x, hx, hxb⟩ => hA x hx b hxb⟩⟩
theorem holds_ro {w : World} {A : Heap} (ok : ∀ x ∈ A, x.ok (hp w)) (hA : ∀ x ∈ A, ∀ b, ¬ x.W b) : Holds w A := by
  refine ⟨ok, ?_⟩
  clear ok
  induction A with
  | nil => exact List.Pairwise.nil
  | cons x A ih => exact List.pairwise_cons.2 ⟨fun y hy b => ⟨fun h => (hA x (by simp) b h).elim, fun h => (hA y (by simp [hy]) b h).elim⟩, ih fun y hy => hA y (by simp [hy])⟩
theorem cell_spot {w : World} {x : Addr} {v : Value} (h : w.cell? x = some v) : ∃ cs T fz, x.spot = none ∧ w.heap[x.block]? = some (.cells cs T fz) ∧ cs[x.off]? = some v := by
  unfold World.cell? at h
  split at h
  · rename_i cs T fz hh
    split at h
    · cases h
    · rename_i hs
      exact ⟨cs, T, fz, by simpa using hs, hh, h⟩
  · cases h
theorem add_spot {x : Addr} (h : x.spot = none) (n : Nat) : x.add n = ⟨x.block, x.off + n, none⟩ := by
  unfold Addr.add; split
  · rename_i h0; subst h0; cases x; simp only at h; subst h; rfl
  · rfl
theorem ro_of_at {α : Type} {w : World} {x : Addr} {τ : Ty α} {xs : List α} (h : ∀ j v, (xs.flatMap τ.enc)[j]? = some v → w.cell? (x.add j) = some v) (hz : 0 < τ.sz) : (ro (some x) τ xs).ok (hp w) := by
  cases xs with
  | nil => exact .inl rfl
  | cons y ys =>
    have hl : 0 < ((y :: ys).flatMap τ.enc).length := by rw [flat_length]; exact Nat.mul_pos (by simp) hz
    obtain ⟨v, hv⟩ : ∃ v, ((y :: ys).flatMap τ.enc)[0]? = some v := ⟨_, List.getElem?_eq_getElem hl⟩
    have h0 := h 0 v hv
    have hx0 : x.add 0 = x := rfl
    rw [hx0] at h0
    obtain ⟨cs, T, fz, hs, hh, hc⟩ := cell_spot h0
    refine .inr ⟨x.block, x.off, cs, T, fz, by cases x; simp only at hs; subst hs; rfl, hh, fun j u hj => ?_⟩
    have hj' := h j u hj
    rw [add_spot hs] at hj'
    have hh' : w.heap[x.block]? = some (.cells cs T fz) := hh
    simp only [World.cell?, hh'] at hj'
    simpa using hj'
theorem flat_ints (k : IntKind) (xs : List Int) : xs.flatMap (tInt k).enc = xs.map (Value.int k) := by
  induction xs with
  | nil => rfl
  | cons x xs ih => rw [List.flatMap_cons, ih]; rfl
def IsRow (k : IntKind) (w : World) (a : Option Addr) (len cap : Nat) (zs : List Int) : Prop :=
  (a = none ∧ len = 0 ∧ cap = 0 ∧ zs = []) ∨
  ∃ x, a = some x ∧ len ≤ cap ∧ cap ≤ maxLen ∧ zs.length = cap ∧ (∀ i, i < zs.length → w.cell? (x.add i) = some (.int k (zs.getD i 0))) ∧ ∀ n ∈ zs, (Lit.int k n).wf = true
theorem isRow_ro {k : IntKind} {w : World} {a : Option Addr} {len cap : Nat} {zs : List Int} (h : IsRow k w a len cap zs) : ∃ xs : List Int, xs.length = len ∧ (ro a (tInt k) xs).ok (hp w) ∧ (∀ n ∈ xs, (Lit.int k n).wf = true) ∧ len ≤ maxLen := by
  rcases h with ⟨rfl, rfl, rfl, rfl⟩ | ⟨x, rfl, h1, h2, h3, h4, h5⟩
  · exact ⟨[], rfl, .inl rfl, fun n h => (by cases h), Nat.zero_le _⟩
  · refine ⟨zs.take len, by rw [List.length_take]; omega, ro_of_at (fun j v hj => ?_) (Nat.succ_pos 0), fun n hn => h5 n (List.mem_of_mem_take hn), by omega⟩
    rw [flat_ints, List.getElem?_map] at hj
    cases hg : (zs.take len)[j]? with
    | none => rw [hg] at hj; cases hj
    | some n =>
      rw [hg] at hj
      injection hj with hj
      rw [List.getElem?_take] at hg
      split at hg
      · have hlt := (List.getElem?_eq_some_iff.1 hg).1
        rw [h4 j hlt, ← hj]
        simp [hg]
      · cases hg
end Go.Proofs.Ytomaldjedncjoaa.E
