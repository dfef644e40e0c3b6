/-
The walk's tenth part: clear of a row's end, a row made shorter, append of a whole row, makeSlice, copies.
Conditions: none; these are general lemmas.
-/
import Derived.Test.YtomaldjedncjoaaE9
set_option linter.unusedVariables false
set_option linter.unusedSimpArgs false
namespace Go.Proofs.Ytomaldjedncjoaa.E
open Go
section
variable {P : Program} {G : Cx} {ops : Array Oper} {Q : Po} {D : List Deferred} {e : Env} {L : Heap} {K : Ko} {ty : TypeId} {pos : String} {af : Array Edge} {d : Nat} {α : Type}
theorem row_take_ok {h : HF} {a : Option Nat} {T : TypeId} {cap : Nat} {τ : Ty α} {xs : List α} (i : Nat) (hr : (row a T cap τ xs).ok h) : (row a T cap τ (xs.take i)).ok h := by
  rcases hr with ⟨h1, rfl, h2⟩ | ⟨g, cur, h1, h2, h3, h4, h5, h6⟩
  · exact .inl ⟨h1, by simp, h2⟩
  · refine .inr ⟨g, cur, h1, h2, Nat.le_trans (List.length_take_le' _ _) h3, h4, h5, ?_⟩
    have hl : (xs.take i).length ≤ xs.length := List.length_take_le' _ _
    have hm : (xs.take i).length * τ.sz ≤ xs.length * τ.sz := Nat.mul_le_mul_right _ hl
    have : (cur.toList.take (xs.length * τ.sz)).take ((xs.take i).length * τ.sz) = cur.toList.take ((xs.take i).length * τ.sz) := by rw [List.take_take, Nat.min_eq_left hm]
    rw [← this, h6, flat_take]
    congr 1
    rw [List.length_take]
    rcases Nat.le_total i xs.length with hi | hi
    · rw [Nat.min_eq_left hi]
    · rw [Nat.min_eq_right hi, List.take_of_length_le (Nat.le_refl _), List.take_of_length_le hi]
/-- Two resources with the same footprint, where the one says the other. -/
theorem tr_weak {w0 w : World} {A0 L R : Heap} {x y : Res} (hW : ∀ b, y.W b ↔ x.W b) (hR : ∀ b, y.R b ↔ x.R b) (hok : ∀ h, x.ok h → y.ok h) (hs : Sel L x R) (h : Tr w0 A0 w L) : Tr w0 A0 w (y :: R) := by
  have h := h.perm hs.perm
  refine ⟨fun z hz => ?_, List.pairwise_cons.2 ⟨fun z hz b => ?_, (List.pairwise_cons.1 h.ap).2⟩, h.os, h.tape, h.out, h.size, h.keep, fun z hz b hb => ?_, fun z hz b hb => ?_⟩
  · rcases List.mem_cons.1 hz with rfl | hz
    · exact hok _ (h.ok x (by simp))
    · exact h.ok z (by simp [hz])
  · have := (List.pairwise_cons.1 h.ap).1 z hz b
    rw [hW, hR]; exact this
  · rcases List.mem_cons.1 hz with rfl | hz
    · exact h.subW x (by simp) b ((hW b).1 hb)
    · exact h.subW z (by simp [hz]) b hb
  · rcases List.mem_cons.1 hz with rfl | hz
    · exact h.subR x (by simp) b ((hR b).1 hb)
    · exact h.subR z (by simp [hz]) b hb
theorem tr_take {w0 w : World} {A0 L R : Heap} {a : Option Nat} {T : TypeId} {cap : Nat} {τ : Ty α} {xs : List α} (i : Nat) (hs : Sel L (row a T cap τ xs) R) (h : Tr w0 A0 w L) : Tr w0 A0 w (row a T cap τ (xs.take i) :: R) :=
  tr_weak (x := row a T cap τ xs) (fun _ => Iff.rfl) (fun _ => Iff.rfl) (fun _ h => row_take_ok i h) hs h
theorem zeroCells_all {z : List Value} {n : Nat} {p : Value → Bool} (h : z.all p = true) (hz : 0 < z.length) : ∀ v ∈ (Builtin.zeroCells z.toArray n).toList, p v = true := by
  intro v hv
  simp only [Builtin.zeroCells, Array.toList_map, List.mem_map] at hv
  obtain ⟨i, _, rfl⟩ := hv
  have hlt : i % z.toArray.size < z.toArray.size := Nat.mod_lt _ (by simpa using hz)
  rw [getElem!_pos z.toArray _ hlt]
  exact List.all_eq_true.1 h _ (by simp)
theorem zeroCells_length {z : List Value} {n : Nat} : (Builtin.zeroCells z.toArray n).toList.length = n * z.length := by simp [Builtin.zeroCells]
/-- clear(xs[i:]): the row's beginning stays. -/
theorem st_clearR {t T sz by_ : Nat} {z : List Value} [ht : SlT P t T sz by_] [hz : Zr P T z] {x : Operand} {a : Option Nat} {cap n i : Nat} {τ : Ty α} {xs : List α} {R : Heap} (hx : ev e x = .slice (suf (oad a) cap i sz) (n - i) (cap - i)) (hs : Sel L (row a T cap τ xs) R)
    (hn : n = xs.length) (hi : i ≤ n) (hsz : τ.sz = sz) (hzl : z.length = sz) (hz1 : z.all (·.oneCell') = true) (h : K D e (row a T cap τ (xs.take i) :: R)) : OpK P G ops Q ⟨none, .call ⟨.builtin .clear, #[x], #[t]⟩, ty, pos, af, none⟩ K D e L := by
  subst hn
  refine opk_step (A := [row a T cap τ xs]) (R := R) rfl (fun c => by simp) hs.perm fun w hw => ?_
  obtain ⟨hu, ii, hii, hs1, hs2⟩ := ht.s
  obtain ⟨i', z', hi', hz', hzc⟩ := hz.z
  rw [hii] at hi'; injection hi' with hi'; subst hi'
  have hrow := hw.ok _ (show row a T cap τ xs ∈ _ by simp)
  rcases Nat.eq_or_lt_of_le hi with heq | hlt
  · refine ⟨.tuple #[], w, [row a T cap τ (xs.take i)], ?_, ?_, h⟩
    · have h0 : xs.length - i = 0 := by omega
      rw [h0] at hx
      simp only [execOp, resolve, invoke, builtin, Sem.run_bind, Sem.run_pure, Result.andThen_ok, List.map_toArray, List.map_cons, List.map_nil, hx, Builtin.clear_, underlying, hu]
      cases suf (oad a) cap i sz <;> simp [hu]
    · have := tr_take (w0 := w) (w := w) (A0 := [row a T cap τ xs]) i (Sel.head _ []) (Tr.refl hw)
      exact this
  · obtain ⟨g, rfl⟩ := row_isSome hrow (by omega)
    obtain ⟨cur, h1, h2, h3, h4, h5⟩ := row_some hrow
    have hsuf : suf (oad (some g)) cap i sz = some ⟨g, i * sz, none⟩ := by
      unfold suf; rw [if_neg (by omega)]; simp [oad, Addr.add]; intro hh; omega
    rw [hsuf] at hx
    have hb : g < w.heap.size := hp_lt (w := w) (b := g) (by simp [hp, h1])
    have hnz : 0 < sz := ht.nz.1
    have hmul : i * sz + (xs.length - i) * sz = xs.length * sz := by rw [← Nat.add_mul]; congr 1; omega
    have hcap : xs.length * sz ≤ cap * sz := Nat.mul_le_mul_right _ h2
    subst hsz
    have hfit : i * τ.sz + 0 + (Builtin.zeroCells z.toArray (xs.length - i)).toList.length ≤ cur.toList.length := by
      rw [zeroCells_length, hzl]; simp only [Array.length_toList, h4]; omega
    have hst := run_storeCellsB (P := P) (b := g) (T := T) (Builtin.zeroCells z.toArray (xs.length - i)).toList w cur.toList (i * τ.sz) 0 (by simpa using h1) hfit (zeroCells_all hz1 (by omega))
    have hle : i * τ.sz ≤ cur.toList.length := by rw [Array.length_toList, h4]; omega
    refine ⟨.tuple #[], _, [row (some g) T cap τ (xs.take i)], ?_, tr_putB (.cells (setAt cur.toList (i * τ.sz + 0) (Builtin.zeroCells z.toArray (xs.length - i)).toList).toArray T (0, 0)) hb (fun c => ⟨fun h => (Option.some.inj h).symm, fun h => by rw [h]; rfl⟩) (fun c => ⟨fun h => (Option.some.inj h).symm, fun h => by rw [h]; rfl⟩) (fun c h => h) (.inr ⟨g, _, rfl, by rw [hp_putB _ hb, if_pos rfl], Nat.le_trans (List.length_take_le' _ _) h2, h3, by simp [setAt_length, h4], ?_⟩), h⟩
    · obtain ⟨k, hk⟩ : ∃ k, xs.length - i = k + 1 := ⟨xs.length - i - 1, by omega⟩
      rw [hk] at hst hx ⊢
      have hzv : ∀ w, (zeroValue T).run P w = .ok z' w := fun w => by simp [zeroValue, typeInfo, hii, hz']
      have hcl : ∀ ty, (Builtin.clear_ #[t] ty #[.slice (some ⟨g, i * τ.sz, none⟩) (k + 1) (cap - i)]).run P w = .ok (.tuple #[]) (putB w g (.cells (setAt cur.toList (i * τ.sz + 0) (Builtin.zeroCells z.toArray (k + 1)).toList).toArray T (0, 0))) := fun ty => by
        simp only [Builtin.clear_, List.getElem?_toArray, List.getElem?_cons_zero, Sem.run_bind, run_underlying hu, Result.andThen_ok, hzv, hzc, hst, Sem.run_pure]
      simp only [execOp, resolve, invoke, builtin, Sem.run_bind, Sem.run_pure, Result.andThen_ok, List.map_toArray, List.map_cons, List.map_nil, hx, hcl]
    · rw [setAt_eq _ _ _ (by simpa using hfit), Nat.add_zero, List.length_take, Nat.min_eq_left (by omega), List.append_assoc, List.take_append_of_le_length (by rw [List.length_take]; omega), List.take_take, Nat.min_self, ← flat_take, ← h5, List.take_take, Nat.min_eq_left (by omega)]
end
end Go.Proofs.Ytomaldjedncjoaa.E
