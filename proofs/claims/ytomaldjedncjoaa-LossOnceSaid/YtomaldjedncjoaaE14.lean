/-
The walk's fourteenth part: a row appended to a row; a field of a row's element stored.
Conditions: none; these are general lemmas.
-/
import Derived.Test.YtomaldjedncjoaaE13
import Derived.Laws.OwnMore
set_option linter.unusedVariables false
set_option linter.unusedSimpArgs false
namespace Go.Proofs.Ytomaldjedncjoaa.E
open Go
section
variable {P : Program} {G : Cx} {ops : Array Oper} {Q : Po} {D : List Deferred} {e : Env} {L : Heap} {K : Ko} {ty : TypeId} {pos : String} {af : Array Edge} {d : Nat} {α : Type}
/-- append(xs, ys...), each a row of its own. -/
theorem st_appendR {t T sz by_ : Nat} {z : List Value} [ht : SlT P t T sz by_] [hz : Zr P T z] {s x : Operand} {a a2 : Option Nat} {cap cap2 T2 : Nat} {τ : Ty α} {xs ys : List α} {R R' : Heap} (hs : ev e s = .slice (oad a) xs.length cap) (hx : ev e x = .slice (oad a2) ys.length cap2)
    (hr : Sel L (row a T cap τ xs) R) (hb : Sel R (row a2 T2 cap2 τ ys) R') (hsz : τ.sz = sz) (hzl : z.length = sz) (hl : (xs.length + ys.length) * by_ ≤ 140737488355328)
    (h : ∀ a' cap', K D (upd e d (.slice (oad a') (xs ++ ys).length cap')) (row a' T cap' τ (xs ++ ys) :: row a2 T2 cap2 τ ys :: R')) : OpK P G ops Q ⟨some d, .call ⟨.builtin .append, #[s, x], #[t, t]⟩, ty, pos, af, none⟩ K D e L := by
  have hperm : L.Perm ([row a T cap τ xs, row a2 T2 cap2 τ ys] ++ R') := hr.perm.trans (List.Perm.cons _ hb.perm)
  refine opk_step (A := [row a T cap τ xs, row a2 T2 cap2 τ ys]) (R := R') rfl (fun c => by simp) hperm fun w hw => ?_
  obtain ⟨hu, i, hi, hs1, hs2⟩ := ht.s
  obtain ⟨i', z', hi', hz', hzc⟩ := hz.z
  rw [hi] at hi'; injection hi' with hi'; subst hi'
  have hrow := hw.ok _ (show row a T cap τ xs ∈ _ by simp)
  have hrow2 := hw.ok _ (show row a2 T2 cap2 τ ys ∈ _ by simp)
  subst hsz
  have hown := row_owns hrow
  have hn : 0 < by_ := ht.nz.2
  have hlen : xs.length + ys.length ≤ 140737488355328 := Nat.le_trans (Nat.le_mul_of_pos_right _ hn) hl
  have hxs : (xs ++ ys).length = xs.length + ys.length := by simp
  have hfl : (xs ++ ys).flatMap τ.enc = xs.flatMap τ.enc ++ ys.flatMap τ.enc := by simp
  have hoa : Value.ownBlock (.slice (oad a) xs.length cap) = a := by cases a <;> rfl
  have fin : ∀ v' w', (Builtin.append_ #[t, t] ty #[.slice (oad a) xs.length cap, .slice (oad a2) ys.length cap2]).run P w = .ok v' w' → w'.ownsRow 0 T τ.sz v' (xs.length + ys.length) (xs.flatMap τ.enc ++ ys.flatMap τ.enc) → w.grownBy w' a → (v'.ownBlock = a ∨ v'.ownBlock = some w.heap.size) →
      ∃ v w' L', (execOp (ev e) ⟨some d, .call ⟨.builtin .append, #[s, x], #[t, t]⟩, ty, pos, af, none⟩).run P w = .ok (.value v) w' ∧ Tr w [row a T cap τ xs, row a2 T2 cap2 τ ys] w' L' ∧ K D (updO e (some d) v) (L' ++ R') := by
    intro v' w' hrun hown' hg hat
    rw [← hxs, ← hfl] at hown'
    obtain ⟨a', cap', rfl, hrow', hab⟩ := owns_row hown'
    refine ⟨_, w', [row a' T cap' τ (xs ++ ys), row a2 T2 cap2 τ ys], ?_, ?_, h a' cap'⟩
    · simp only [execOp, resolve, invoke, builtin, Sem.run_bind, Sem.run_pure, Result.andThen_ok, List.map_toArray, List.map_cons, List.map_nil, hs, hx, hrun]
    · have htr : Tr w [row a T cap τ xs] w' [row a' T cap' τ (xs ++ ys)] := by
        rw [hab] at hat
        exact tr_grown hg (fun c => Iff.rfl) (fun c => Iff.rfl) (fun c h => h) hrow' hat
      exact Tr.frame (A0 := [row a T cap τ xs, row a2 T2 cap2 τ ys]) (A := [row a T cap τ xs]) (R := [row a2 T2 cap2 τ ys]) (Tr.refl hw) htr
  cases ha2 : a2 with
  | none =>
    subst ha2
    rcases hrow2 with ⟨_, h1, h2⟩ | ⟨g, cur, h0, _⟩
    · subst h1; subst h2
      refine fin _ w (run_append_owned_none w 0 t ty T i τ.sz hu hi _ _ _ hown) (by simpa using hown) ⟨rfl, rfl, rfl, Nat.le_refl _, fun _ _ _ => rfl⟩ (.inl hoa)
    · cases h0
  | some g =>
    subst ha2
    obtain ⟨cur, c1, c2, c3, c4, c5⟩ := row_some hrow2
    obtain ⟨v', w', hrun, hown', hg, _, hat⟩ := run_append_own_at (P := P) w 0 t ty T i z' τ.sz by_ hu hi hz' hs1 hs2 (by rw [hzc]; simpa using hzl) ht.nz.1 _ _ _ hown ⟨g, 0, none⟩ ys.length cap2 (ys.flatMap τ.enc) (flat_length τ ys)
      (fun j u hj => by
        rw [add_lit]
        rw [← c5, List.getElem?_take] at hj
        split at hj
        · simp only [World.cell?, c1]; simpa using hj
        · cases hj) (fun u hu => by obtain ⟨y, _, hy⟩ := List.mem_flatMap.1 hu; exact τ.one y u hy) (by simp only [maxLen]; omega) hl (Nat.zero_le _)
    rw [hoa] at hg hat
    exact fin v' w' hrun hown' hg hat
/-- One cell of a row's element. -/
theorem st_storeF {t : Nat} {x zz : Operand} {g k j sz : Nat} {T cap : Nat} {τ : Ty α} {xs : List α} {R : Heap} {v : Value} (y y' : α) [Sc P t] (hx : ev e x = .pointer (some ⟨g, k * sz + j, none⟩)) (hz : ev e zz = v) (hk : xs[k]? = some y) (hj : j < τ.sz) (hv : τ.enc y' = (τ.enc y).set j v) (hs : Sel L (row (some g) T cap τ xs) R) (hsz : τ.sz = sz)
    (h : K D e (row (some g) T cap τ (xs.set k y') :: R)) : OpK P G ops Q ⟨none, .store t x zz, ty, pos, af, none⟩ K D e L :=
  opk_stepS rfl (fun c => by simp) hs.perm fun w hw => by
    have hrow := hw.ok _ (show row (some g) T cap τ xs ∈ _ by simp)
    have hkl := (List.getElem?_eq_some_iff.1 hk).1
    obtain ⟨cur, h1, h2, h3⟩ := row_store hrow hkl y'
    subst hsz
    have ho : v.oneCell' = true := τ.one y' v (by rw [hv]; exact List.mem_iff_getElem?.2 ⟨j, by rw [List.getElem?_set_self (by rw [τ.len]; exact hj)]⟩)
    have hc : v.cells = #[v] := by cases v <;> simp [Value.oneCell'] at ho <;> rfl
    have hold : ∀ i u, (τ.enc y)[i]? = some u → cur.toList[k * τ.sz + i]? = some u := fun i u hi => by
      have := row_cell hrow hk hi
      simp only [World.cell?, h1] at this
      simpa using this
    have heq : setAt cur.toList (k * τ.sz) (τ.enc y') = cur.toList.set (k * τ.sz + j) v := by
      rw [hv, setAt_eq _ _ _ (by rw [List.length_set, τ.len]; exact h2), List.length_set, τ.len]
      apply List.ext_getElem?
      intro i
      have hll : ((τ.enc y).set j v).length = τ.sz := by rw [List.length_set, τ.len]
      have htl : (cur.toList.take (k * τ.sz)).length = k * τ.sz := by rw [List.length_take]; omega
      rcases Nat.lt_or_ge i (k * τ.sz) with hi | hi
      · rw [List.append_assoc, List.getElem?_append_left (by omega), List.getElem?_take, if_pos hi, List.getElem?_set_ne (by omega)]
      · rcases Nat.lt_or_ge i (k * τ.sz + τ.sz) with hi2 | hi2
        · rw [List.append_assoc, List.getElem?_append_right (by omega), htl, List.getElem?_append_left (by omega)]
          by_cases hij : i = k * τ.sz + j
          · subst hij
            rw [Nat.add_sub_cancel_left, List.getElem?_set_self (by rw [τ.len]; exact hj), List.getElem?_set_self (by omega)]
          · rw [List.getElem?_set_ne (by omega), List.getElem?_set_ne (by omega)]
            have hlt : i - k * τ.sz < (τ.enc y).length := by rw [τ.len]; omega
            have := hold (i - k * τ.sz) _ (List.getElem?_eq_getElem hlt)
            rw [List.getElem?_eq_getElem hlt, ← this]
            congr 1; omega
        · rw [List.getElem?_append_right (by simp only [List.length_append, htl, hll]; omega), List.length_append, htl, hll, List.getElem?_drop, List.getElem?_set_ne (by omega)]
          congr 1; omega
    rw [heq] at h3
    refine ⟨_, _, ?_, h3, h⟩
    simp only [execOp, hx, hz, Instr.storeAt, Instr.sureAddr, storeVar, Sem.run_bind, Sem.run_pure, Result.andThen_ok, run_sizeOf_sc, hc, List.size_toArray, List.length_singleton, ne_eq, not_true, if_false, storeCells]
    simp only [add_lit, Nat.add_zero]
    rw [run_storeB h1 (by omega) ho]
    simp
end
end Go.Proofs.Ytomaldjedncjoaa.E
