/-
The layer 'loss': backwards through a list; what is given up.
Conditions: each is said with its statement.
-/
import Derived.Test.YtomaldjedncjoaaL3
import Derived.Test.YtomaldjedncjoaaE11
set_option linter.unusedVariables false
namespace Go.Proofs.Ytomaldjedncjoaa.E
open Go
set_option maxRecDepth 100000
set_option maxHeartbeats 4000000
theorem back52 (ad : Option Addr) (n cap : Nat) : Spec Go.Proofs.Try.prog 52 #[.slice ad n cap] [] (fun v L => ∃ c, v = .func (.func 53) #[] #[ptr c] ∧ L = [blk c 61 [.slice ad n cap]]) := by
  refine spec_of (args := [.slice ad n cap]) Go.Proofs.Try.func52 rfl rfl fun w0 hw0 => ?_
  repeat' (first
    | (
        refine cw_region (id := 0) rfl ?_
        all_goals (refine ow_cons ?_; first | refine kBox (fun bN => ?_) | refine kBoxA (fun bN => ?_))
        all_goals refine wAssign ?_
        all_goals refine ow_nil ?_)
    | (
        refine cw_region (id := 1) rfl ?_
        all_goals refine wFunc ?_
        all_goals refine wAssign ?_
        all_goals refine ow_nil ?_)
    | refine cw_seq ?_
    | refine tq_n ?_
    | refine cw_skip ?_ | refine cw_ret ?_ | refine cw_exit ?_ | refine cw_block ?_ | refine cTrue ?_ | refine cFalse ?_ | refine cT ?_ | refine cF ?_ | refine cS (fun hc => ?_) (fun hc => ?_) | refine cB (fun hc => ?_) (fun hc => ?_)
    | refine tq_ret ?_ | refine tq_exit ?_ | refine bq_n ?_ | refine bq_ret ?_ | refine bq_same ?_ | refine bq_ne rfl ?_)
  exact retQ_ret (retV_tmps [2] rfl rfl) ⟨bN, rfl, rfl⟩ (fun _ _ h => h)
/-- What is met by going backwards. -/
def back (xs : List Pk) : List (List Value) := (List.range xs.length).map fun k => match xs[xs.length - 1 - k]? with | some x => [i6 ((xs.length - 1 - k : Nat) : Int), .agg (encPk x).toArray] | none => []
theorem back_length (xs : List Pk) : (back xs).length = xs.length := by simp [back]
theorem back_get {xs : List Pk} {j : Nat} {x : Pk} (hx : xs[j]? = some x) : (back xs)[xs.length - 1 - j]? = some [i6 (j : Int), .agg (encPk x).toArray] := by
  have hj := (List.getElem?_eq_some_iff.1 hx).1
  have h1 : xs.length - 1 - (xs.length - 1 - j) = j := by omega
  simp only [back, List.getElem?_map]
  rw [List.getElem?_range (by omega)]
  simp only [Option.map_some, h1, hx]
theorem back_rev {xs : List Pk} {k : Nat} {v : List Value} (h : (back xs)[k]? = some v) : ∃ q, xs.reverse[k]? = some q ∧ v = [i6 ((xs.length - 1 - k : Nat) : Int), .agg (encPk q).toArray] := by
  simp only [back, List.getElem?_map] at h
  have hk : k < xs.length := by
    rcases Nat.lt_or_ge k xs.length with h' | h'
    · exact h'
    · rw [List.getElem?_eq_none (by simpa using h')] at h; cases h
  rw [List.getElem?_range hk] at h
  obtain ⟨q, hq⟩ : ∃ q, xs[xs.length - 1 - k]? = some q := ⟨_, List.getElem?_eq_getElem (by omega)⟩
  simp only [Option.map_some, hq, Option.some.injEq] at h
  exact ⟨q, by rw [List.getElem?_reverse hk]; exact hq, h.symm⟩
theorem iter53 (c : Nat) (ad : Option Addr) (cap : Nat) (xs : List Pk) (hx : xs.length ≤ 1099511627780) : Iter Go.Proofs.Try.prog 53 [ptr c] [blk c 61 [.slice ad xs.length cap], ro ad tPk xs] (back xs) := by
  intro y I Ex hY L hI
  refine spec_of (args := [y, ptr c]) Go.Proofs.Try.func53 rfl rfl fun w0 hw0 => ?_
  repeat' (first
    | (
        refine cw_region (id := 0) rfl ?_
        all_goals refine wLoad ?_
        all_goals refine wLen ?_
        all_goals refine wSub ?_
        all_goals refine wAssign ?_
        all_goals refine ow_nil ?_)
    | (
        refine cw_region (id := 1) rfl ?_
        all_goals refine wMove ?_
        all_goals refine wGeq ?_
        all_goals refine ow_nil ?_)
    | (
        refine cw_region (id := 2) rfl ?_
        all_goals refine wMove ?_
        all_goals refine wSub ?_
        all_goals refine wAssign ?_
        all_goals refine ow_nil ?_)
    | refine cw_seq ?_
    | refine tq_n ?_
    | (refine isCW ?_; first | refine cw_region rfl ?_ | refine cw_skip ?_ | refine cw_ret ?_ | refine cw_exit ?_ | refine cw_block ?_ | refine cTrue ?_ | refine cFalse ?_ | refine cT ?_ | refine cF ?_ | refine cS (fun hc => ?_) (fun hc => ?_) | refine cB (fun hc => ?_) (fun hc => ?_))
    | refine tq_ret ?_ | refine tq_exit ?_ | refine bq_n ?_ | refine bq_ret ?_ | refine bq_same ?_ | refine bq_ne rfl ?_
    | refine ow_cons ?_ | refine ow_nil ?_
    | (refine isOpK ?_; first
      | (refine isG ?_; first | refine opk_yes rfl rfl ?_ | refine opk_no rfl rfl ?_ | refine opk_no_undef rfl rfl ?_ | refine opk_g_t rfl rfl (by omega) ?_ | refine opk_g_f rfl rfl (by omega) ?_ | refine opk_g_s rfl rfl (fun hc => ?_) (fun hc => ?_) | refine opk_g_b rfl rfl (fun hc => ?_) (fun hc => ?_))
      | refine kRd ?_
      | refine kStore ?_
      | refine kStoreA ?_
      | refine kStoreR ?_
      | (refine kIdxR (fun g hg => ?_); subst hg)
      | (refine kIdxO (fun gb go hg => ?_); subst hg)
      | refine st_alloc (fun bN => ?_)
      | refine kBox (fun bN => ?_)
      | refine kBoxA (fun bN => ?_)
      | (refine st_buildSlice rfl rfl rfl rfl (fun bN => ?_))
      | (refine st_clearR rfl selA rfl (by omega) rfl rfl rfl ?_)
      | (refine st_clearR rfl selA (by omega) (by omega) rfl rfl rfl ?_))
    | refine hw_cons ?_ | refine hw_nil ?_
    | (refine isOpS ?_; first
      | (refine os_isG ?_; first | refine os_yes rfl rfl ?_ | refine os_no rfl rfl ?_ | refine os_no_undef rfl rfl ?_ | refine os_g_t rfl rfl (by omega) ?_ | refine os_g_f rfl rfl (by omega) ?_ | refine os_g_s rfl rfl (fun hc => ?_) (fun hc => ?_) | refine os_g_b rfl rfl (fun hc => ?_) (fun hc => ?_))
      | refine sRd ?_))
  refine cw_rounds (S := fun s : Nat × Heap => [(0, y), (1, ptr c), (3, .int .i64 ((s.1 : Int) - 1))]) (H := fun s => s.2 ++ [blk c 61 [.slice ad xs.length cap], ro ad tPk xs])
    (V := fun s => s.1 ≤ xs.length ∧ I (xs.length - s.1) s.2) (μ := fun s => s.1) (xs.length, L) ⟨rfl, rfl, rfl, trivial⟩ ⟨Nat.le_refl _, by rw [Nat.sub_self]; exact hI⟩ (fun _ h => h) ?_
  rintro ⟨j, L1⟩ e' ⟨hj, hI⟩
  simp only at hj hI
  cases j with
  | zero =>
    dsimp only [upds]
    repeat' (first
      | (
          refine cw_region (id := 0) rfl ?_
          all_goals refine wLoad ?_
          all_goals refine wLen ?_
          all_goals refine wSub ?_
          all_goals refine wAssign ?_
          all_goals refine ow_nil ?_)
      | (
          refine cw_region (id := 1) rfl ?_
          all_goals refine wMove ?_
          all_goals refine wGeq ?_
          all_goals refine ow_nil ?_)
      | (
          refine cw_region (id := 2) rfl ?_
          all_goals refine wMove ?_
          all_goals refine wSub ?_
          all_goals refine wAssign ?_
          all_goals refine ow_nil ?_)
      | refine cw_seq ?_
      | refine tq_n ?_
      | (refine isCW ?_; first | refine cw_region rfl ?_ | refine cw_skip ?_ | refine cw_ret ?_ | refine cw_exit ?_ | refine cw_block ?_ | refine cTrue ?_ | refine cFalse ?_ | refine cT ?_ | refine cF ?_ | refine cS (fun hc => ?_) (fun hc => ?_) | refine cB (fun hc => ?_) (fun hc => ?_))
      | refine tq_ret ?_ | refine tq_exit ?_ | refine bq_n ?_ | refine bq_ret ?_ | refine bq_same ?_ | refine bq_ne rfl ?_
      | refine ow_cons ?_ | refine ow_nil ?_
      | (refine isOpK ?_; first
        | (refine isG ?_; first | refine opk_yes rfl rfl ?_ | refine opk_no rfl rfl ?_ | refine opk_no_undef rfl rfl ?_ | refine opk_g_t rfl rfl (by omega) ?_ | refine opk_g_f rfl rfl (by omega) ?_ | refine opk_g_s rfl rfl (fun hc => ?_) (fun hc => ?_) | refine opk_g_b rfl rfl (fun hc => ?_) (fun hc => ?_))
        | refine kRd ?_
        | refine kStore ?_
        | refine kStoreA ?_
        | refine kStoreR ?_
        | (refine kIdxR (fun g hg => ?_); subst hg)
        | (refine kIdxO (fun gb go hg => ?_); subst hg)
        | refine st_alloc (fun bN => ?_)
        | refine kBox (fun bN => ?_)
        | refine kBoxA (fun bN => ?_)
        | (refine st_buildSlice rfl rfl rfl rfl (fun bN => ?_))
        | (refine st_clearR rfl selA rfl (by omega) rfl rfl rfl ?_)
        | (refine st_clearR rfl selA (by omega) (by omega) rfl rfl rfl ?_))
      | refine hw_cons ?_ | refine hw_nil ?_
      | (refine isOpS ?_; first
        | (refine os_isG ?_; first | refine os_yes rfl rfl ?_ | refine os_no rfl rfl ?_ | refine os_no_undef rfl rfl ?_ | refine os_g_t rfl rfl (by omega) ?_ | refine os_g_f rfl rfl (by omega) ?_ | refine os_g_s rfl rfl (fun hc => ?_) (fun hc => ?_) | refine os_g_b rfl rfl (fun hc => ?_) (fun hc => ?_))
        | refine sRd ?_))
    exact retQ_end (retV_tmps [] rfl rfl) ⟨L1, rfl, .inl (by rw [back_length]; exact hI)⟩ (fun _ _ h => h)
  | succ j =>
    have hjj : ((j + 1 : Nat) : Int) - 1 = (j : Int) := by omega
    obtain ⟨x, hxj⟩ : ∃ x, xs[j]? = some x := ⟨_, List.getElem?_eq_getElem (by omega)⟩
    have hk : (back xs)[xs.length - (j + 1)]? = some [i6 (j : Int), .agg (encPk x).toArray] := by
      have := back_get hxj
      rwa [show xs.length - 1 - j = xs.length - (j + 1) by omega] at this
    have hkl : xs.length - (j + 1) < (back xs).length := (List.getElem?_eq_some_iff.1 hk).1
    have hk1 : xs.length - (j + 1) + 1 = xs.length - j := by omega
    dsimp only [upds]
    simp only [hjj]
    repeat' (first
      | (
          refine cw_region (id := 0) rfl ?_
          all_goals refine wLoad ?_
          all_goals refine wLen ?_
          all_goals refine wSub ?_
          all_goals refine wAssign ?_
          all_goals refine ow_nil ?_)
      | (
          refine cw_region (id := 1) rfl ?_
          all_goals refine wMove ?_
          all_goals refine wGeq ?_
          all_goals refine ow_nil ?_)
      | (
          refine cw_region (id := 3) rfl ?_
          all_goals refine wMove ?_
          all_goals refine wMove ?_
          all_goals refine wLoad ?_
          all_goals refine wMove ?_
          all_goals (refine ow_cons ?_; first | refine kIndex ?_ | (refine kIdxR (fun g hg => ?_); subst hg) | (refine kIdxO (fun gb go hg => ?_); subst hg))
          all_goals refine wLoad ?_
          all_goals (refine ow_cons ?_; (refine st_callY (av := [_, _]) rfl rfl (hY _ _ L1 hk hI) (selL_all _) ?_; rintro v L' ⟨L2, rfl, ⟨rfl, hI2⟩ | ⟨rfl, hE⟩⟩))
          all_goals refine wNot ?_
          all_goals refine ow_nil ?_)
      | (
          refine cw_region (id := 2) rfl ?_
          all_goals refine wMove ?_
          all_goals refine wSub ?_
          all_goals refine wAssign ?_
          all_goals refine ow_nil ?_)
      | refine cw_seq ?_
      | refine tq_n ?_
      | refine cw_skip ?_ | refine cw_ret ?_ | refine cw_exit ?_ | refine cw_block ?_ | refine cTrue ?_ | refine cFalse ?_ | refine cT ?_ | refine cF ?_ | refine cS (fun hc => ?_) (fun hc => ?_) | refine cB (fun hc => ?_) (fun hc => ?_)
      | refine tq_ret ?_ | refine tq_exit ?_ | refine bq_n ?_ | refine bq_ret ?_ | refine bq_same ?_ | refine bq_ne rfl ?_)
    · exact lp_end (j, L2) ⟨rfl, rfl, rfl, trivial⟩ ⟨by simp only; omega, hk1 ▸ hI2⟩ (by simp only; omega) (fun _ h => h)
    · exact retQ_ret (retV_tmps [] rfl rfl) ⟨L2, rfl, .inr ⟨_, hkl, hE⟩⟩ (fun _ _ h => h)
def lostP (best lim : Int) (q : Pk) : Bool := decide (q.number ≤ best - 3 ∨ (q.number < best ∧ q.at_ ≤ lim))
theorem give51 (q : Pk) (c1 c2 b : Nat) (lim : Int) (s : St) (a : Option Nat) (cap : Nat) (hb : -1 ≤ s.best ∧ s.best ≤ 1099511627776) :
    Spec Go.Proofs.Try.prog 51 #[.agg (encPk q).toArray, ptr c1, ptr c2] [blk b 63 (encS s a cap), blk c1 24 [ptr b], blk c2 3 [i6 lim]] (fun v L => v = .bool (lostP s.best lim q) ∧ L = [blk b 63 (encS s a cap), blk c1 24 [ptr b], blk c2 3 [i6 lim]]) := by
  refine spec_of (args := [.agg (encPk q).toArray, ptr c1, ptr c2]) Go.Proofs.Try.func51 rfl rfl fun w0 hw0 => ?_
  repeat' (first
    | (
        refine cw_region (id := 0) rfl ?_
        all_goals (refine ow_cons ?_; first | refine kBox (fun bN => ?_) | refine kBoxA (fun bN => ?_))
        all_goals refine wAssign ?_
        all_goals refine ow_nil ?_)
    | (
        refine cw_draw (id := 1) 24 (by kernel_rfl) (by kernel_rfl) rfl ?_
        all_goals refine hField ?_
        all_goals refine hLoad ?_
        all_goals refine hLoad ?_
        all_goals refine hCheck ?_
        all_goals refine hField ?_
        all_goals refine hLoad ?_
        all_goals refine hSub ?_
        all_goals refine hLeq ?_
        all_goals refine hMove ?_
        all_goals (refine hw_cons ?_; first | refine qNo ?_ | refine qUn ?_ | (refine qYes ?_; refine sField ?_) | (refine qTf ?_; refine sField ?_) | refine qFf ?_ | (refine qSf (fun hc => ?_) (fun hc => ?_); rotate_left; (focus (refine sField ?_)); rotate_right) | (refine qBf (fun hc => ?_) (fun hc => ?_); rotate_left; (focus (refine sField ?_)); rotate_right))
        all_goals (refine hw_cons ?_; first | refine qNo ?_ | refine qUn ?_ | (refine qYes ?_; refine sLoad ?_) | (refine qTf ?_; refine sLoad ?_) | refine qFf ?_ | (refine qSf (fun hc => ?_) (fun hc => ?_); rotate_left; (focus (refine sLoad ?_)); rotate_right) | (refine qBf (fun hc => ?_) (fun hc => ?_); rotate_left; (focus (refine sLoad ?_)); rotate_right))
        all_goals (refine hw_cons ?_; first | refine qNo ?_ | refine qUn ?_ | (refine qYes ?_; refine sLoad ?_) | (refine qTf ?_; refine sLoad ?_) | refine qFf ?_ | (refine qSf (fun hc => ?_) (fun hc => ?_); rotate_left; (focus (refine sLoad ?_)); rotate_right) | (refine qBf (fun hc => ?_) (fun hc => ?_); rotate_left; (focus (refine sLoad ?_)); rotate_right))
        all_goals (refine hw_cons ?_; first | refine qNo ?_ | refine qUn ?_ | (refine qYes ?_; refine sCheck ?_) | (refine qTf ?_; refine sCheck ?_) | refine qFf ?_ | (refine qSf (fun hc => ?_) (fun hc => ?_); rotate_left; (focus (refine sCheck ?_)); rotate_right) | (refine qBf (fun hc => ?_) (fun hc => ?_); rotate_left; (focus (refine sCheck ?_)); rotate_right))
        all_goals (refine hw_cons ?_; first | refine qNo ?_ | refine qUn ?_ | (refine qYes ?_; refine sField ?_) | (refine qTf ?_; refine sField ?_) | refine qFf ?_ | (refine qSf (fun hc => ?_) (fun hc => ?_); rotate_left; (focus (refine sField ?_)); rotate_right) | (refine qBf (fun hc => ?_) (fun hc => ?_); rotate_left; (focus (refine sField ?_)); rotate_right))
        all_goals (refine hw_cons ?_; first | refine qNo ?_ | refine qUn ?_ | (refine qYes ?_; refine sLoad ?_) | (refine qTf ?_; refine sLoad ?_) | refine qFf ?_ | (refine qSf (fun hc => ?_) (fun hc => ?_); rotate_left; (focus (refine sLoad ?_)); rotate_right) | (refine qBf (fun hc => ?_) (fun hc => ?_); rotate_left; (focus (refine sLoad ?_)); rotate_right))
        all_goals (refine hw_cons ?_; first | refine qNo ?_ | refine qUn ?_ | (refine qYes ?_; refine sLss ?_) | (refine qTf ?_; refine sLss ?_) | refine qFf ?_ | (refine qSf (fun hc => ?_) (fun hc => ?_); rotate_left; (focus (refine sLss ?_)); rotate_right) | (refine qBf (fun hc => ?_) (fun hc => ?_); rotate_left; (focus (refine sLss ?_)); rotate_right))
        all_goals (refine hw_cons ?_; first | refine qNo ?_ | refine qUn ?_ | (refine qYes ?_; refine sMove ?_) | (refine qTf ?_; refine sMove ?_) | refine qFf ?_ | (refine qSf (fun hc => ?_) (fun hc => ?_); rotate_left; (focus (refine sMove ?_)); rotate_right) | (refine qBf (fun hc => ?_) (fun hc => ?_); rotate_left; (focus (refine sMove ?_)); rotate_right))
        all_goals (refine hw_cons ?_; first | refine qNo ?_ | refine qUn ?_ | (refine qYes ?_; refine sField ?_) | (refine qTt ?_; refine sField ?_) | refine qFt ?_ | (refine qSt (fun hc => ?_) (fun hc => ?_); (focus (refine sField ?_))) | (refine qBt (fun hc => ?_) (fun hc => ?_); (focus (refine sField ?_))))
        all_goals (refine hw_cons ?_; first | refine qNo ?_ | refine qUn ?_ | (refine qYes ?_; refine sLoad ?_) | (refine qTt ?_; refine sLoad ?_) | refine qFt ?_ | (refine qSt (fun hc => ?_) (fun hc => ?_); (focus (refine sLoad ?_))) | (refine qBt (fun hc => ?_) (fun hc => ?_); (focus (refine sLoad ?_))))
        all_goals (refine hw_cons ?_; first | refine qNo ?_ | refine qUn ?_ | (refine qYes ?_; refine sLoad ?_) | (refine qTt ?_; refine sLoad ?_) | refine qFt ?_ | (refine qSt (fun hc => ?_) (fun hc => ?_); (focus (refine sLoad ?_))) | (refine qBt (fun hc => ?_) (fun hc => ?_); (focus (refine sLoad ?_))))
        all_goals (refine hw_cons ?_; first | refine qNo ?_ | refine qUn ?_ | (refine qYes ?_; refine sLeq ?_) | (refine qTt ?_; refine sLeq ?_) | refine qFt ?_ | (refine qSt (fun hc => ?_) (fun hc => ?_); (focus (refine sLeq ?_))) | (refine qBt (fun hc => ?_) (fun hc => ?_); (focus (refine sLeq ?_))))
        all_goals (refine hw_cons ?_; first | refine qNo ?_ | refine qUn ?_ | (refine qYes ?_; refine sPick ?_) | (refine qTf ?_; refine sPick ?_) | refine qFf ?_ | (refine qSf (fun hc => ?_) (fun hc => ?_); rotate_left; (focus (refine sPick ?_)); rotate_right) | (refine qBf (fun hc => ?_) (fun hc => ?_); rotate_left; (focus (refine sPick ?_)); rotate_right))
        all_goals refine hPick ?_
        all_goals refine hAssign ?_
        all_goals refine hw_nil ?_
        all_goals refine ow_nil ?_)
    | refine cw_seq ?_
    | refine tq_n ?_
    | refine cw_skip ?_ | refine cw_ret ?_ | refine cw_exit ?_ | refine cw_block ?_ | refine cTrue ?_ | refine cFalse ?_ | refine cT ?_ | refine cF ?_ | refine cS (fun hc => ?_) (fun hc => ?_) | refine cB (fun hc => ?_) (fun hc => ?_)
    | refine tq_ret ?_ | refine tq_exit ?_ | refine bq_n ?_ | refine bq_ret ?_ | refine bq_same ?_ | refine bq_ne rfl ?_)
  · exact retQ_ret (retV_tmps [4] rfl rfl) ⟨dec_t (.inl hc), rfl⟩ (fun _ _ h => pick3 h selA selA selA)
  · exact retQ_ret (retV_tmps [4] rfl rfl) ⟨dec_i (by omega), rfl⟩ (fun _ _ h => pick3 h selA selA selA)
  · exact retQ_ret (retV_tmps [4] rfl rfl) ⟨dec_f (by omega), rfl⟩ (fun _ _ h => pick3 h selA selA selA)
def St.cut (s : St) (now : Int) (gone : List Pk) : St :=
  match gone.reverse.find? (·.asks) with
  | some q => if s.since < q.at_ then { s with since := now, mark := s.window / 2, window := max (s.window / 2) 2400 } else s
  | none => s
def St.lost (s : St) (now : Int) : Pk → Bool := lostP s.best (now - s.wait)
def St.cutq (s : St) (now : Int) (q : Pk) : St := if s.since < q.at_ then { s with since := now, mark := s.window / 2, window := max (s.window / 2) 2400 } else s
theorem cut_at {s : St} {now : Int} {gone : List Pk} {k : Nat} {q : Pk} (hq : gone.reverse[k]? = some q) (ha : q.asks = true) (hn : ∀ (j : Nat) (x : Pk), j < k → gone.reverse[j]? = some x → x.asks = false) : s.cut now gone = s.cutq now q := by
  have : gone.reverse.find? (·.asks) = some q := by
    rw [List.find?_eq_some_iff_getElem]
    obtain ⟨hk, hx⟩ := List.getElem?_eq_some_iff.1 hq
    exact ⟨ha, k, hk, hx, fun j hj => by have := hn j gone.reverse[j] hj (List.getElem?_eq_getElem (by omega)); simpa using this⟩
  simp only [St.cut, this, St.cutq]
theorem cut_none {s : St} {now : Int} {gone : List Pk} (hn : ∀ (j : Nat) (x : Pk), gone.reverse[j]? = some x → x.asks = false) : s.cut now gone = s := by
  have : gone.reverse.find? (·.asks) = none := by
    rw [List.find?_eq_none]
    intro x hx
    obtain ⟨j, hj⟩ := List.mem_iff_getElem?.1 hx
    simp [hn j x hj]
  simp only [St.cut, this]
theorem cut_waits (s : St) (now : Int) (gone : List Pk) : (s.cut now gone).waits = s.waits := by
  unfold St.cut; split
  · split <;> rfl
  · rfl
def St.give (s : St) (now : Int) : St := (s.outS (s.lost now)).cut now (s.waits.filter (s.lost now))
theorem sameBut_best {s s' : St} (h : sameBut s s') : s'.best = s.best := by unfold sameBut at h; rw [h]
theorem out29give (b c1 c2 : Nat) (s : St) (a : Option Nat) (cap : Nat) (now : Int) (hb : -1 ≤ s.best ∧ s.best ≤ 1099511627776) (hl : s.waits.length ≤ 1099511627779) (hf : 0 ≤ s.flight ∧ s.flight ≤ 4611686018427387904) (hq : ∀ q ∈ s.waits, 0 ≤ q.size ∧ q.size ≤ 65535) :
    Spec Go.Proofs.Try.prog 29 #[ptr b, .func (.func 51) #[] #[ptr c1, ptr c2]] (stR b s a cap ++ [blk c1 24 [ptr b], blk c2 3 [i6 (now - s.wait)]])
      (fun v L => ∃ a' cap', v = .slice (oad a') (s.waits.filter (s.lost now)).length cap' ∧ L = stR b (s.outS (s.lost now)) a cap ++ ([row a' 66 cap' tPk (s.waits.filter (s.lost now))] ++ [blk c1 24 [ptr b], blk c2 3 [i6 (now - s.wait)]])) :=
  out29 b 51 [ptr c1, ptr c2] [blk c1 24 [ptr b], blk c2 3 [i6 (now - s.wait)]] (s.lost now) s a cap (fun q _ s' hs' => by
    have hbb := sameBut_best hs'
    have := give51 q c1 c2 b (now - s.wait) s' a cap (by omega)
    rw [hbb] at this
    exact this) hl hf hq
theorem give38 (b : Nat) (s : St) (a : Option Nat) (cap : Nat) (now : Int) (hs : 0 ≤ s.smooth ∧ s.smooth ≤ 1099511627776) (hla : 0 ≤ s.last ∧ s.last ≤ 1099511627776) (hb : -1 ≤ s.best ∧ s.best ≤ 1099511627776) (hn : 0 ≤ now ∧ now ≤ 1099511627776)
    (hw : 0 ≤ s.window ∧ s.window ≤ 1099511627776) (hl : s.waits.length ≤ 1099511627779) (hf : 0 ≤ s.flight ∧ s.flight ≤ 4611686018427387904) (hq : ∀ q ∈ s.waits, 0 ≤ q.size ∧ q.size ≤ 65535) :
    Spec Go.Proofs.Try.prog 38 #[ptr b, i6 now] (stR b s a cap)
      (fun v L => ∃ a' cap', v = .slice (oad a') (s.waits.filter (s.lost now)).length cap' ∧ L = stR b (s.give now) a cap ++ [row a' 3 cap' (tInt .i64) ((s.waits.filter (s.lost now)).map (·.number))]) := by
  refine spec_ofM (args := [ptr b, i6 now]) Go.Proofs.Try.func38 rfl rfl fun w0 hw0 => ?_
  have hwt : 1 ≤ s.wait ∧ s.wait ≤ 1236950581248 := by unfold St.wait; omega
  unfold stR
  repeat' ((fail_if_success (refine isSeqR (id := 1) ?_)); first
    | (
        refine cw_region (id := 0) rfl ?_
        all_goals (refine ow_cons ?_; first | refine kBox (fun bN => ?_) | refine kBoxA (fun bN => ?_))
        all_goals (refine ow_cons ?_; first | refine kBox (fun bN => ?_) | refine kBoxA (fun bN => ?_))
        all_goals refine wAssign ?_
        all_goals refine ow_nil ?_)
    | (
        refine cw_region (id := 4) rfl ?_
        all_goals (refine ow_cons ?_; refine st_alloc (fun bN => ?_))
        all_goals (refine ow_cons ?_; first | refine kStore ?_ | refine kStoreA ?_ | refine kStoreR ?_)
        all_goals refine ow_nil ?_)
    | (
        refine cw_region (id := 5) rfl ?_
        all_goals refine wField ?_
        all_goals refine wLoad ?_
        all_goals refine wNot ?_
        all_goals refine ow_nil ?_)
    | (
        refine cw_draw (id := 6) 7 (by kernel_rfl) (by kernel_rfl) rfl ?_
        all_goals refine hField ?_
        all_goals refine hLoad ?_
        all_goals refine hLoad ?_
        all_goals refine hCheck ?_
        all_goals refine hField ?_
        all_goals refine hLoad ?_
        all_goals refine hGtr ?_
        all_goals refine hw_nil ?_
        all_goals refine ow_nil ?_)
    | (
        refine cw_region (id := 7) rfl ?_
        all_goals refine wLoad ?_
        all_goals refine wLoad ?_
        all_goals refine wCheck ?_
        all_goals refine wField ?_
        all_goals (refine ow_cons ?_; first | refine kStore ?_ | refine kStoreA ?_ | refine kStoreR ?_)
        all_goals refine ow_nil ?_)
    | (
        refine cw_draw (id := 8) 8 (by kernel_rfl) (by kernel_rfl) rfl ?_
        all_goals refine hLoad ?_
        all_goals refine hLoad ?_
        all_goals refine hCheck ?_
        all_goals refine hField ?_
        all_goals refine hLoad ?_
        all_goals refine hQuo ?_
        all_goals refine hCheck ?_
        all_goals refine hField ?_
        all_goals refine hw_nil ?_
        all_goals (refine ow_cons ?_; first | refine kStore ?_ | refine kStoreA ?_ | refine kStoreR ?_)
        all_goals refine ow_nil ?_)
    | (
        refine cw_draw (id := 9) 8 (by kernel_rfl) (by kernel_rfl) rfl ?_
        all_goals refine hLoad ?_
        all_goals refine hLoad ?_
        all_goals refine hCheck ?_
        all_goals refine hField ?_
        all_goals refine hLoad ?_
        all_goals refine hMax ?_
        all_goals refine hCheck ?_
        all_goals refine hField ?_
        all_goals refine hw_nil ?_
        all_goals (refine ow_cons ?_; first | refine kStore ?_ | refine kStoreA ?_ | refine kStoreR ?_)
        all_goals refine ow_nil ?_)
    | refine cw_seq ?_
    | refine tq_n ?_
    | (refine isCW ?_; first | refine cw_region rfl ?_ | refine cw_skip ?_ | refine cw_ret ?_ | refine cw_exit ?_ | refine cw_block ?_ | refine cTrue ?_ | refine cFalse ?_ | refine cT ?_ | refine cF ?_ | refine cS (fun hc => ?_) (fun hc => ?_) | refine cB (fun hc => ?_) (fun hc => ?_))
    | refine tq_ret ?_ | refine tq_exit ?_ | refine bq_n ?_ | refine bq_ret ?_ | refine bq_same ?_ | refine bq_ne rfl ?_
    | refine ow_cons ?_ | refine ow_nil ?_
    | (refine isOpK ?_; first
      | (refine isG ?_; first | refine opk_yes rfl rfl ?_ | refine opk_no rfl rfl ?_ | refine opk_no_undef rfl rfl ?_ | refine opk_g_t rfl rfl (by omega) ?_ | refine opk_g_f rfl rfl (by omega) ?_ | refine opk_g_s rfl rfl (fun hc => ?_) (fun hc => ?_) | refine opk_g_b rfl rfl (fun hc => ?_) (fun hc => ?_))
      | refine kRd ?_
      | refine kStore ?_
      | refine kStoreA ?_
      | refine kStoreR ?_
      | (refine kIdxR (fun g hg => ?_); subst hg)
      | (refine kIdxO (fun gb go hg => ?_); subst hg)
      | refine st_alloc (fun bN => ?_)
      | refine kBox (fun bN => ?_)
      | refine kBoxA (fun bN => ?_)
      | (refine st_buildSlice rfl rfl rfl rfl (fun bN => ?_))
      | (refine st_clearR rfl selA rfl (by omega) rfl rfl rfl ?_)
      | (refine st_clearR rfl selA (by omega) (by omega) rfl rfl rfl ?_))
    | refine hw_cons ?_ | refine hw_nil ?_
    | (refine isOpS ?_; first
      | (refine os_isG ?_; first | refine os_yes rfl rfl ?_ | refine os_no rfl rfl ?_ | refine os_no_undef rfl rfl ?_ | refine os_g_t rfl rfl (by omega) ?_ | refine os_g_f rfl rfl (by omega) ?_ | refine os_g_s rfl rfl (fun hc => ?_) (fun hc => ?_) | refine os_g_b rfl rfl (fun hc => ?_) (fun hc => ?_))
      | refine sRd ?_))
  refine cw_norm (S := fun c : Nat × Nat × Nat => [(0, ptr b), (2, ptr c.1), (3, ptr c.2.1), (5, ptr c.2.2)]) (H := fun c => [blk c.1 24 [ptr b], blk c.2.1 3 [i6 now], blk c.2.2 3 [i6 (now - s.wait)], blk b 63 (encS s a cap), row a 66 cap tPk s.waits]) (V := fun _ => True) ?_ ?_
  · skip
    repeat' (first
      | (
          refine cw_region (id := 0) rfl ?_
          all_goals (refine ow_cons ?_; first | refine kBox (fun bN => ?_) | refine kBoxA (fun bN => ?_))
          all_goals (refine ow_cons ?_; first | refine kBox (fun bN => ?_) | refine kBoxA (fun bN => ?_))
          all_goals refine wAssign ?_
          all_goals refine ow_nil ?_)
      | (
            refine cw_drawX (id := 1) (.cons sel0 (.cons sel0 (.nil _))) (by kernel_rfl) rfl ?_
            repeat' (first
              | (refine ax_take (done := []) 0 rfl (by kernel_rfl) (.cons selA (.cons selA (.nil _))) ?_; refine sLoad ?_)
              | (refine ax_take (done := [0]) 1 rfl (by kernel_rfl) (.cons selA (.cons selA (.nil _))) ?_; refine sLoad ?_)
              | (refine ax_two (done := [1, 0]) 2 4 rfl rfl (by kernel_rfl) (.cons selA (.cons selA (.nil _))) ?_ ?_)
              | (refine ax_is 2 (done := [1, 0]) rfl ?_; (refine st_call (av := [_]) rfl (wait_spec b s a cap hs hla) (.cons selA (.nil _)) ?_; rintro v L' ⟨rfl, rfl⟩))
              | (refine ax_is 4 (done := [1, 0]) rfl ?_; refine st_alloc (fun bN => ?_))
              | (refine ax_take (done := [2, 1, 0]) 3 rfl (by kernel_rfl) (.cons selA (.cons selA (.nil _))) ?_; refine sSub ?_)
              | (refine ax_one (done := [3, 2, 1, 0]) 4 rfl (by kernel_rfl) (.cons selA (.cons selA (.nil _))) ?_; refine st_alloc (fun bN => ?_))
              | (refine ax_one (done := [4, 3, 2, 1, 0]) 5 rfl (by kernel_rfl) (.cons selA (.cons selA (.nil _))) ?_; first | refine kStore ?_ | refine kStoreA ?_ | refine kStoreR ?_)
              | refine ax_done (done := [5, 4, 3, 2, 1, 0]) (by kernel_rfl) (.cons selA (.cons selA (.nil _))) ?_
              | (refine ax_one (done := [4, 1, 0]) 2 rfl (by kernel_rfl) (.cons selA (.cons selA (.nil _))) ?_; (refine st_call (av := [_]) rfl (wait_spec b s a cap hs hla) (.cons selA (.nil _)) ?_; rintro v L' ⟨rfl, rfl⟩))
              | (refine ax_take (done := [2, 4, 1, 0]) 3 rfl (by kernel_rfl) (.cons selA (.cons selA (.nil _))) ?_; refine sSub ?_)
              | (refine ax_one (done := [3, 2, 4, 1, 0]) 5 rfl (by kernel_rfl) (.cons selA (.cons selA (.nil _))) ?_; first | refine kStore ?_ | refine kStoreA ?_ | refine kStoreR ?_)
              | refine ax_done (done := [5, 3, 2, 4, 1, 0]) (by kernel_rfl) (.cons selA (.cons selA (.nil _))) ?_))
      | (
          refine cw_region (id := 4) rfl ?_
          all_goals (refine ow_cons ?_; refine st_alloc (fun bN => ?_))
          all_goals (refine ow_cons ?_; first | refine kStore ?_ | refine kStoreA ?_ | refine kStoreR ?_)
          all_goals refine ow_nil ?_)
      | (
          refine cw_region (id := 5) rfl ?_
          all_goals refine wField ?_
          all_goals refine wLoad ?_
          all_goals refine wNot ?_
          all_goals refine ow_nil ?_)
      | (
          refine cw_draw (id := 6) 7 (by kernel_rfl) (by kernel_rfl) rfl ?_
          all_goals refine hField ?_
          all_goals refine hLoad ?_
          all_goals refine hLoad ?_
          all_goals refine hCheck ?_
          all_goals refine hField ?_
          all_goals refine hLoad ?_
          all_goals refine hGtr ?_
          all_goals refine hw_nil ?_
          all_goals refine ow_nil ?_)
      | (
          refine cw_region (id := 7) rfl ?_
          all_goals refine wLoad ?_
          all_goals refine wLoad ?_
          all_goals refine wCheck ?_
          all_goals refine wField ?_
          all_goals (refine ow_cons ?_; first | refine kStore ?_ | refine kStoreA ?_ | refine kStoreR ?_)
          all_goals refine ow_nil ?_)
      | (
          refine cw_draw (id := 8) 8 (by kernel_rfl) (by kernel_rfl) rfl ?_
          all_goals refine hLoad ?_
          all_goals refine hLoad ?_
          all_goals refine hCheck ?_
          all_goals refine hField ?_
          all_goals refine hLoad ?_
          all_goals refine hQuo ?_
          all_goals refine hCheck ?_
          all_goals refine hField ?_
          all_goals refine hw_nil ?_
          all_goals (refine ow_cons ?_; first | refine kStore ?_ | refine kStoreA ?_ | refine kStoreR ?_)
          all_goals refine ow_nil ?_)
      | (
          refine cw_draw (id := 9) 8 (by kernel_rfl) (by kernel_rfl) rfl ?_
          all_goals refine hLoad ?_
          all_goals refine hLoad ?_
          all_goals refine hCheck ?_
          all_goals refine hField ?_
          all_goals refine hLoad ?_
          all_goals refine hMax ?_
          all_goals refine hCheck ?_
          all_goals refine hField ?_
          all_goals refine hw_nil ?_
          all_goals (refine ow_cons ?_; first | refine kStore ?_ | refine kStoreA ?_ | refine kStoreR ?_)
          all_goals refine ow_nil ?_)
      | refine cw_seq ?_
      | refine tq_n ?_
      | (refine isCW ?_; first | refine cw_region rfl ?_ | refine cw_skip ?_ | refine cw_ret ?_ | refine cw_exit ?_ | refine cw_block ?_ | refine cTrue ?_ | refine cFalse ?_ | refine cT ?_ | refine cF ?_ | refine cS (fun hc => ?_) (fun hc => ?_) | refine cB (fun hc => ?_) (fun hc => ?_))
      | refine tq_ret ?_ | refine tq_exit ?_ | refine bq_n ?_ | refine bq_ret ?_ | refine bq_same ?_ | refine bq_ne rfl ?_
      | refine ow_cons ?_ | refine ow_nil ?_
      | (refine isOpK ?_; first
        | (refine isG ?_; first | refine opk_yes rfl rfl ?_ | refine opk_no rfl rfl ?_ | refine opk_no_undef rfl rfl ?_ | refine opk_g_t rfl rfl (by omega) ?_ | refine opk_g_f rfl rfl (by omega) ?_ | refine opk_g_s rfl rfl (fun hc => ?_) (fun hc => ?_) | refine opk_g_b rfl rfl (fun hc => ?_) (fun hc => ?_))
        | refine kRd ?_
        | refine kStore ?_
        | refine kStoreA ?_
        | refine kStoreR ?_
        | (refine kIdxR (fun g hg => ?_); subst hg)
        | (refine kIdxO (fun gb go hg => ?_); subst hg)
        | refine st_alloc (fun bN => ?_)
        | refine kBox (fun bN => ?_)
        | refine kBoxA (fun bN => ?_)
        | (refine st_buildSlice rfl rfl rfl rfl (fun bN => ?_))
        | (refine st_clearR rfl selA rfl (by omega) rfl rfl rfl ?_)
        | (refine st_clearR rfl selA (by omega) (by omega) rfl rfl rfl ?_)
        | (refine st_call (av := [_]) rfl (wait_spec b s a cap hs hla) (.cons selA (.nil _)) ?_; rintro v L' ⟨rfl, rfl⟩))
      | refine hw_cons ?_ | refine hw_nil ?_
      | (refine isOpS ?_; first
        | (refine os_isG ?_; first | refine os_yes rfl rfl ?_ | refine os_no rfl rfl ?_ | refine os_no_undef rfl rfl ?_ | refine os_g_t rfl rfl (by omega) ?_ | refine os_g_f rfl rfl (by omega) ?_ | refine os_g_s rfl rfl (fun hc => ?_) (fun hc => ?_) | refine os_g_b rfl rfl (fun hc => ?_) (fun hc => ?_))
        | refine sRd ?_))
    · exact nm_end (_, _, _) ⟨rfl, rfl, rfl, rfl, trivial⟩ trivial (fun _ h => pick5 h selA selA selA selA selA)
    · exact nm_end (_, _, _) ⟨rfl, rfl, rfl, rfl, trivial⟩ trivial (fun _ h => pick5 h selA selA selA selA selA)
  rintro ⟨c1, c3, c2⟩ e' -
  dsimp only [upds]
  repeat' (first
    | (
        refine cw_region (id := 0) rfl ?_
        all_goals (refine ow_cons ?_; first | refine kBox (fun bN => ?_) | refine kBoxA (fun bN => ?_))
        all_goals (refine ow_cons ?_; first | refine kBox (fun bN => ?_) | refine kBoxA (fun bN => ?_))
        all_goals refine wAssign ?_
        all_goals refine ow_nil ?_)
    | (
        refine cw_region (id := 2) rfl ?_
        all_goals refine wLoad ?_
        all_goals refine wFunc ?_
        all_goals (refine ow_cons ?_; (refine st_call (av := [_, _]) rfl (out29give b c1 c2 s a cap now hb hl hf hq) (.cons selA (.cons selA (.cons selA (.cons selA (.nil _))))) ?_; rintro v L' ⟨a', cap', rfl, rfl⟩; refine OW.heap ?_ (fun w h => tr_row_ro (a := a') (T := 66) selA h)))
        all_goals refine wAssign ?_
        all_goals refine ow_nil ?_)
    | (
        refine cw_region (id := 3) rfl ?_
        all_goals refine wMove ?_
        all_goals (refine ow_cons ?_; (refine st_call (av := [_]) rfl (back52 _ _ _) (.nil _) ?_; rintro v L' ⟨c, rfl, rfl⟩))
        all_goals refine ow_nil ?_)
    | (
        refine cw_region (id := 4) rfl ?_
        all_goals (refine ow_cons ?_; refine st_alloc (fun bN => ?_))
        all_goals (refine ow_cons ?_; first | refine kStore ?_ | refine kStoreA ?_ | refine kStoreR ?_)
        all_goals refine ow_nil ?_)
    | (
        refine cw_region (id := 5) rfl ?_
        all_goals refine wField ?_
        all_goals refine wLoad ?_
        all_goals refine wNot ?_
        all_goals refine ow_nil ?_)
    | (
        refine cw_draw (id := 6) 7 (by kernel_rfl) (by kernel_rfl) rfl ?_
        all_goals refine hField ?_
        all_goals refine hLoad ?_
        all_goals refine hLoad ?_
        all_goals refine hCheck ?_
        all_goals refine hField ?_
        all_goals refine hLoad ?_
        all_goals refine hGtr ?_
        all_goals refine hw_nil ?_
        all_goals refine ow_nil ?_)
    | (
        refine cw_region (id := 7) rfl ?_
        all_goals refine wLoad ?_
        all_goals refine wLoad ?_
        all_goals refine wCheck ?_
        all_goals refine wField ?_
        all_goals (refine ow_cons ?_; first | refine kStore ?_ | refine kStoreA ?_ | refine kStoreR ?_)
        all_goals refine ow_nil ?_)
    | (
        refine cw_draw (id := 8) 8 (by kernel_rfl) (by kernel_rfl) rfl ?_
        all_goals refine hLoad ?_
        all_goals refine hLoad ?_
        all_goals refine hCheck ?_
        all_goals refine hField ?_
        all_goals refine hLoad ?_
        all_goals refine hQuo ?_
        all_goals refine hCheck ?_
        all_goals refine hField ?_
        all_goals refine hw_nil ?_
        all_goals (refine ow_cons ?_; first | refine kStore ?_ | refine kStoreA ?_ | refine kStoreR ?_)
        all_goals refine ow_nil ?_)
    | (
        refine cw_draw (id := 9) 8 (by kernel_rfl) (by kernel_rfl) rfl ?_
        all_goals refine hLoad ?_
        all_goals refine hLoad ?_
        all_goals refine hCheck ?_
        all_goals refine hField ?_
        all_goals refine hLoad ?_
        all_goals refine hMax ?_
        all_goals refine hCheck ?_
        all_goals refine hField ?_
        all_goals refine hw_nil ?_
        all_goals (refine ow_cons ?_; first | refine kStore ?_ | refine kStoreA ?_ | refine kStoreR ?_)
        all_goals refine ow_nil ?_)
    | refine cw_seq ?_
    | refine tq_n ?_
    | (refine isCW ?_; first | refine cw_region rfl ?_ | refine cw_skip ?_ | refine cw_ret ?_ | refine cw_exit ?_ | refine cw_block ?_ | refine cTrue ?_ | refine cFalse ?_ | refine cT ?_ | refine cF ?_ | refine cS (fun hc => ?_) (fun hc => ?_) | refine cB (fun hc => ?_) (fun hc => ?_))
    | refine tq_ret ?_ | refine tq_exit ?_ | refine bq_n ?_ | refine bq_ret ?_ | refine bq_same ?_ | refine bq_ne rfl ?_
    | refine ow_cons ?_ | refine ow_nil ?_
    | (refine isOpK ?_; first
      | (refine isG ?_; first | refine opk_yes rfl rfl ?_ | refine opk_no rfl rfl ?_ | refine opk_no_undef rfl rfl ?_ | refine opk_g_t rfl rfl (by omega) ?_ | refine opk_g_f rfl rfl (by omega) ?_ | refine opk_g_s rfl rfl (fun hc => ?_) (fun hc => ?_) | refine opk_g_b rfl rfl (fun hc => ?_) (fun hc => ?_))
      | refine kRd ?_
      | refine kStore ?_
      | refine kStoreA ?_
      | refine kStoreR ?_
      | (refine kIdxR (fun g hg => ?_); subst hg)
      | (refine kIdxO (fun gb go hg => ?_); subst hg)
      | refine st_alloc (fun bN => ?_)
      | refine kBox (fun bN => ?_)
      | refine kBoxA (fun bN => ?_)
      | (refine st_buildSlice rfl rfl rfl rfl (fun bN => ?_))
      | (refine st_clearR rfl selA rfl (by omega) rfl rfl rfl ?_)
      | (refine st_clearR rfl selA (by omega) (by omega) rfl rfl rfl ?_)
      | (refine st_call (av := [_, _]) rfl (out29give b c1 c2 s a cap now hb hl hf hq) (.cons selA (.cons selA (.cons selA (.cons selA (.nil _))))) ?_; rintro v L' ⟨a', cap', rfl, rfl⟩; refine OW.heap ?_ (fun w h => tr_row_ro (a := a') (T := 66) selA h))
      | (refine st_call (av := [_]) rfl (back52 _ _ _) (.nil _) ?_; rintro v L' ⟨c, rfl, rfl⟩))
    | refine hw_cons ?_ | refine hw_nil ?_
    | (refine isOpS ?_; first
      | (refine os_isG ?_; first | refine os_yes rfl rfl ?_ | refine os_no rfl rfl ?_ | refine os_no_undef rfl rfl ?_ | refine os_g_t rfl rfl (by omega) ?_ | refine os_g_f rfl rfl (by omega) ?_ | refine os_g_s rfl rfl (fun hc => ?_) (fun hc => ?_) | refine os_g_b rfl rfl (fun hc => ?_) (fun hc => ?_))
      | refine sRd ?_))
  refine cw_env [(2, ptr c1), (3, ptr c3), (6, .slice (oad a') (s.waits.filter (s.lost now)).length cap'), (17, .func (.func 53) #[] #[ptr c])] ⟨rfl, rfl, rfl, rfl, trivial⟩ fun e' => ?_
  dsimp only [upds]
  have hgl : (s.waits.filter (s.lost now)).length ≤ s.waits.length := List.length_filter_le _ _
  have hin : s.give now = (s.outS (s.lost now)).cut now (s.waits.filter (s.lost now)) := rfl
  have hw1 : (s.outS (s.lost now)).window = s.window := by
    have := offs_same s (s.waits.filter (s.lost now))
    unfold sameBut at this
    show (offs s (s.waits.filter (s.lost now))).window = s.window
    rw [this]
  generalize hgone : s.waits.filter (s.lost now) = gone at *
  generalize hs1 : s.outS (s.lost now) = s1 at *
  refine cw_rangeFunc (gf := 53) (caps := [ptr c]) (ps := [18, 19]) (xs := back gone) (A := [blk c 61 [.slice (oad a') gone.length cap'], ro (oad a') tPk gone]) (R := [blk b 63 (encS s1 a cap), row a 66 cap tPk s1.waits, blk c1 24 [ptr b], blk c2 3 [i6 (now - s.wait)], blk c3 3 [i6 now]])
    rfl rfl (.cons sel0 (.cons sel0 (.nil _))) (iter53 c (oad a') cap' gone (by omega))
    (fun k L1 => (∀ (j : Nat) (x : Pk), j < k → gone.reverse[j]? = some x → x.asks = false) ∧ L1 = [blk b 63 (encS s1 a cap), row a 66 cap tPk s1.waits, blk c1 24 [ptr b], blk c2 3 [i6 (now - s.wait)], blk c3 3 [i6 now]])
    (fun cd k L1 => cd = .exit 0 ∧ L1 = [blk b 63 (encS (s1.cut now gone) a cap), row a 66 cap tPk s1.waits, blk c1 24 [ptr b], blk c2 3 [i6 (now - s.wait)], blk c3 3 [i6 now]])
    ⟨fun j x h => by omega, rfl⟩ ?_ rfl ?_ ?_ ?_
  · intro x hx
    obtain ⟨k, hk⟩ := List.mem_iff_getElem?.1 hx
    obtain ⟨q, _, rfl⟩ := back_rev hk
    rfl
  · rintro l w1 rec k x L1 hk ⟨hno, rfl⟩
    obtain ⟨q, hq, rfl⟩ := back_rev hk
    repeat' (first
      | (
          refine cw_region (id := 0) rfl ?_
          all_goals (refine ow_cons ?_; first | refine kBox (fun bN => ?_) | refine kBoxA (fun bN => ?_))
          all_goals (refine ow_cons ?_; first | refine kBox (fun bN => ?_) | refine kBoxA (fun bN => ?_))
          all_goals refine wAssign ?_
          all_goals refine ow_nil ?_)
      | (
          refine cw_region (id := 4) rfl ?_
          all_goals (refine ow_cons ?_; refine st_alloc (fun bN => ?_))
          all_goals (refine ow_cons ?_; first | refine kStore ?_ | refine kStoreA ?_ | refine kStoreR ?_)
          all_goals refine ow_nil ?_)
      | (
          refine cw_region (id := 5) rfl ?_
          all_goals refine wField ?_
          all_goals refine wLoad ?_
          all_goals refine wNot ?_
          all_goals refine ow_nil ?_)
      | (
          refine cw_draw (id := 6) 7 (by kernel_rfl) (by kernel_rfl) rfl ?_
          all_goals refine hField ?_
          all_goals refine hLoad ?_
          all_goals refine hLoad ?_
          all_goals refine hCheck ?_
          all_goals refine hField ?_
          all_goals refine hLoad ?_
          all_goals refine hGtr ?_
          all_goals refine hw_nil ?_
          all_goals refine ow_nil ?_)
      | (
          refine cw_region (id := 7) rfl ?_
          all_goals refine wLoad ?_
          all_goals refine wLoad ?_
          all_goals refine wCheck ?_
          all_goals refine wField ?_
          all_goals (refine ow_cons ?_; first | refine kStore ?_ | refine kStoreA ?_ | refine kStoreR ?_)
          all_goals refine ow_nil ?_)
      | (
          refine cw_draw (id := 8) 8 (by kernel_rfl) (by kernel_rfl) rfl ?_
          all_goals refine hLoad ?_
          all_goals refine hLoad ?_
          all_goals refine hCheck ?_
          all_goals refine hField ?_
          all_goals refine hLoad ?_
          all_goals refine hQuo ?_
          all_goals refine hCheck ?_
          all_goals refine hField ?_
          all_goals refine hw_nil ?_
          all_goals (refine ow_cons ?_; first | refine kStore ?_ | refine kStoreA ?_ | refine kStoreR ?_)
          all_goals refine ow_nil ?_)
      | (
          refine cw_draw (id := 9) 8 (by kernel_rfl) (by kernel_rfl) rfl ?_
          all_goals refine hLoad ?_
          all_goals refine hLoad ?_
          all_goals refine hCheck ?_
          all_goals refine hField ?_
          all_goals refine hLoad ?_
          all_goals refine hMax ?_
          all_goals refine hCheck ?_
          all_goals refine hField ?_
          all_goals refine hw_nil ?_
          all_goals (refine ow_cons ?_; first | refine kStore ?_ | refine kStoreA ?_ | refine kStoreR ?_)
          all_goals refine ow_nil ?_)
      | refine cw_seq ?_
      | refine tq_n ?_
      | (refine isCW ?_; first | refine cw_region rfl ?_ | refine cw_skip ?_ | refine cw_ret ?_ | refine cw_exit ?_ | refine cw_block ?_ | refine cTrue ?_ | refine cFalse ?_ | refine cT ?_ | refine cF ?_ | refine cS (fun hc => ?_) (fun hc => ?_) | refine cB (fun hc => ?_) (fun hc => ?_))
      | refine tq_ret ?_ | refine tq_exit ?_ | refine bq_n ?_ | refine bq_ret ?_ | refine bq_same ?_ | refine bq_ne rfl ?_
      | refine ow_cons ?_ | refine ow_nil ?_
      | (refine isOpK ?_; first
        | (refine isG ?_; first | refine opk_yes rfl rfl ?_ | refine opk_no rfl rfl ?_ | refine opk_no_undef rfl rfl ?_ | refine opk_g_t rfl rfl (by omega) ?_ | refine opk_g_f rfl rfl (by omega) ?_ | refine opk_g_s rfl rfl (fun hc => ?_) (fun hc => ?_) | refine opk_g_b rfl rfl (fun hc => ?_) (fun hc => ?_))
        | refine kRd ?_
        | refine kStore ?_
        | refine kStoreA ?_
        | refine kStoreR ?_
        | (refine kIdxR (fun g hg => ?_); subst hg)
        | (refine kIdxO (fun gb go hg => ?_); subst hg)
        | refine st_alloc (fun bN => ?_)
        | refine kBox (fun bN => ?_)
        | refine kBoxA (fun bN => ?_)
        | (refine st_buildSlice rfl rfl rfl rfl (fun bN => ?_))
        | (refine st_clearR rfl selA rfl (by omega) rfl rfl rfl ?_)
        | (refine st_clearR rfl selA (by omega) (by omega) rfl rfl rfl ?_))
      | refine hw_cons ?_ | refine hw_nil ?_
      | (refine isOpS ?_; first
        | (refine os_isG ?_; first | refine os_yes rfl rfl ?_ | refine os_no rfl rfl ?_ | refine os_no_undef rfl rfl ?_ | refine os_g_t rfl rfl (by omega) ?_ | refine os_g_f rfl rfl (by omega) ?_ | refine os_g_s rfl rfl (fun hc => ?_) (fun hc => ?_) | refine os_g_b rfl rfl (fun hc => ?_) (fun hc => ?_))
        | refine sRd ?_)
      | refine asg_n selA ?_)
    · have ha : q.asks = false := by simpa using hc
      refine rnd_n _ ⟨fun j x hj hx => ?_, rfl⟩ (fun _ _ _ h => pickL h (.cons selA (.cons selA (.cons selA (.cons selA (.cons selA (.cons selA (.cons selA (.cons selA (.nil _))))))))))
      rcases Nat.lt_succ_iff_lt_or_eq.1 hj with hj | rfl
      · exact hno j x hj hx
      · rw [hq] at hx; injection hx with hx; subst hx; exact ha
    · rename_i hd
      have ha : q.asks = true := by simpa using hd
      rw [cut_at hq ha hno]
      simp only [St.cutq, if_pos hc]
      exact rnd_exit _ ⟨rfl, rfl⟩ (fun _ _ _ h => pickL h (.cons selA (.cons selA (.cons selA (.cons selA (.cons selA (.cons selA (.cons selA (.cons selA (.nil _))))))))))
    · rename_i hd
      have ha : q.asks = true := by simpa using hd
      rw [cut_at hq ha hno]
      simp only [St.cutq, if_neg hc]
      exact rnd_exit _ ⟨rfl, rfl⟩ (fun _ _ _ h => pickL h (.cons selA (.cons selA (.cons selA (.cons selA (.cons selA (.cons selA (.cons selA (.cons selA (.nil _))))))))))
  · rintro r L1 ⟨hno, rfl⟩
    repeat' (first
      | (
          refine cw_region (id := 0) rfl ?_
          all_goals (refine ow_cons ?_; first | refine kBox (fun bN => ?_) | refine kBoxA (fun bN => ?_))
          all_goals (refine ow_cons ?_; first | refine kBox (fun bN => ?_) | refine kBoxA (fun bN => ?_))
          all_goals refine wAssign ?_
          all_goals refine ow_nil ?_)
      | (
          refine cw_region (id := 4) rfl ?_
          all_goals (refine ow_cons ?_; refine st_alloc (fun bN => ?_))
          all_goals (refine ow_cons ?_; first | refine kStore ?_ | refine kStoreA ?_ | refine kStoreR ?_)
          all_goals refine ow_nil ?_)
      | (
          refine cw_region (id := 5) rfl ?_
          all_goals refine wField ?_
          all_goals refine wLoad ?_
          all_goals refine wNot ?_
          all_goals refine ow_nil ?_)
      | (
          refine cw_draw (id := 6) 7 (by kernel_rfl) (by kernel_rfl) rfl ?_
          all_goals refine hField ?_
          all_goals refine hLoad ?_
          all_goals refine hLoad ?_
          all_goals refine hCheck ?_
          all_goals refine hField ?_
          all_goals refine hLoad ?_
          all_goals refine hGtr ?_
          all_goals refine hw_nil ?_
          all_goals refine ow_nil ?_)
      | (
          refine cw_region (id := 7) rfl ?_
          all_goals refine wLoad ?_
          all_goals refine wLoad ?_
          all_goals refine wCheck ?_
          all_goals refine wField ?_
          all_goals (refine ow_cons ?_; first | refine kStore ?_ | refine kStoreA ?_ | refine kStoreR ?_)
          all_goals refine ow_nil ?_)
      | (
          refine cw_draw (id := 8) 8 (by kernel_rfl) (by kernel_rfl) rfl ?_
          all_goals refine hLoad ?_
          all_goals refine hLoad ?_
          all_goals refine hCheck ?_
          all_goals refine hField ?_
          all_goals refine hLoad ?_
          all_goals refine hQuo ?_
          all_goals refine hCheck ?_
          all_goals refine hField ?_
          all_goals refine hw_nil ?_
          all_goals (refine ow_cons ?_; first | refine kStore ?_ | refine kStoreA ?_ | refine kStoreR ?_)
          all_goals refine ow_nil ?_)
      | (
          refine cw_draw (id := 9) 8 (by kernel_rfl) (by kernel_rfl) rfl ?_
          all_goals refine hLoad ?_
          all_goals refine hLoad ?_
          all_goals refine hCheck ?_
          all_goals refine hField ?_
          all_goals refine hLoad ?_
          all_goals refine hMax ?_
          all_goals refine hCheck ?_
          all_goals refine hField ?_
          all_goals refine hw_nil ?_
          all_goals (refine ow_cons ?_; first | refine kStore ?_ | refine kStoreA ?_ | refine kStoreR ?_)
          all_goals refine ow_nil ?_)
      | (
          refine cw_region (id := 10) rfl ?_
          all_goals refine wMove ?_
          all_goals (refine ow_cons ?_; (refine st_call (av := [_]) rfl (numbers37 _ _ gone (by omega)) (.cons selA (.nil _)) ?_; rintro v L' ⟨a2, cap2, rfl, rfl⟩))
          all_goals refine wAssign ?_
          all_goals refine ow_nil ?_)
      | refine cw_seq ?_
      | refine tq_n ?_
      | (refine isCW ?_; first | refine cw_region rfl ?_ | refine cw_skip ?_ | refine cw_ret ?_ | refine cw_exit ?_ | refine cw_block ?_ | refine cTrue ?_ | refine cFalse ?_ | refine cT ?_ | refine cF ?_ | refine cS (fun hc => ?_) (fun hc => ?_) | refine cB (fun hc => ?_) (fun hc => ?_))
      | refine tq_ret ?_ | refine tq_exit ?_ | refine bq_n ?_ | refine bq_ret ?_ | refine bq_same ?_ | refine bq_ne rfl ?_
      | refine ow_cons ?_ | refine ow_nil ?_
      | (refine isOpK ?_; first
        | (refine isG ?_; first | refine opk_yes rfl rfl ?_ | refine opk_no rfl rfl ?_ | refine opk_no_undef rfl rfl ?_ | refine opk_g_t rfl rfl (by omega) ?_ | refine opk_g_f rfl rfl (by omega) ?_ | refine opk_g_s rfl rfl (fun hc => ?_) (fun hc => ?_) | refine opk_g_b rfl rfl (fun hc => ?_) (fun hc => ?_))
        | refine kRd ?_
        | refine kStore ?_
        | refine kStoreA ?_
        | refine kStoreR ?_
        | (refine kIdxR (fun g hg => ?_); subst hg)
        | (refine kIdxO (fun gb go hg => ?_); subst hg)
        | refine st_alloc (fun bN => ?_)
        | refine kBox (fun bN => ?_)
        | refine kBoxA (fun bN => ?_)
        | (refine st_buildSlice rfl rfl rfl rfl (fun bN => ?_))
        | (refine st_clearR rfl selA rfl (by omega) rfl rfl rfl ?_)
        | (refine st_clearR rfl selA (by omega) (by omega) rfl rfl rfl ?_)
        | (refine st_call (av := [_]) rfl (numbers37 _ _ gone (by omega)) (.cons selA (.nil _)) ?_; rintro v L' ⟨a2, cap2, rfl, rfl⟩))
      | refine hw_cons ?_ | refine hw_nil ?_
      | (refine isOpS ?_; first
        | (refine os_isG ?_; first | refine os_yes rfl rfl ?_ | refine os_no rfl rfl ?_ | refine os_no_undef rfl rfl ?_ | refine os_g_t rfl rfl (by omega) ?_ | refine os_g_f rfl rfl (by omega) ?_ | refine os_g_s rfl rfl (fun hc => ?_) (fun hc => ?_) | refine os_g_b rfl rfl (fun hc => ?_) (fun hc => ?_))
        | refine sRd ?_))
    have hcn : s1.cut now gone = s1 := cut_none fun j x hx => hno j x (by rw [back_length]; have := (List.getElem?_eq_some_iff.1 hx).1; simpa using this) hx
    rw [hin, hcn]
    exact retM_ret1 selA (retV_tmps [4] rfl rfl) ⟨a2, cap2, rfl, rfl⟩ (fun _ _ h => pick3 h selA selA selA)
  · rintro r cd k L1 hk ⟨rfl, rfl⟩
    repeat' (first
      | (
          refine cw_region (id := 0) rfl ?_
          all_goals (refine ow_cons ?_; first | refine kBox (fun bN => ?_) | refine kBoxA (fun bN => ?_))
          all_goals (refine ow_cons ?_; first | refine kBox (fun bN => ?_) | refine kBoxA (fun bN => ?_))
          all_goals refine wAssign ?_
          all_goals refine ow_nil ?_)
      | (
          refine cw_region (id := 4) rfl ?_
          all_goals (refine ow_cons ?_; refine st_alloc (fun bN => ?_))
          all_goals (refine ow_cons ?_; first | refine kStore ?_ | refine kStoreA ?_ | refine kStoreR ?_)
          all_goals refine ow_nil ?_)
      | (
          refine cw_region (id := 5) rfl ?_
          all_goals refine wField ?_
          all_goals refine wLoad ?_
          all_goals refine wNot ?_
          all_goals refine ow_nil ?_)
      | (
          refine cw_draw (id := 6) 7 (by kernel_rfl) (by kernel_rfl) rfl ?_
          all_goals refine hField ?_
          all_goals refine hLoad ?_
          all_goals refine hLoad ?_
          all_goals refine hCheck ?_
          all_goals refine hField ?_
          all_goals refine hLoad ?_
          all_goals refine hGtr ?_
          all_goals refine hw_nil ?_
          all_goals refine ow_nil ?_)
      | (
          refine cw_region (id := 7) rfl ?_
          all_goals refine wLoad ?_
          all_goals refine wLoad ?_
          all_goals refine wCheck ?_
          all_goals refine wField ?_
          all_goals (refine ow_cons ?_; first | refine kStore ?_ | refine kStoreA ?_ | refine kStoreR ?_)
          all_goals refine ow_nil ?_)
      | (
          refine cw_draw (id := 8) 8 (by kernel_rfl) (by kernel_rfl) rfl ?_
          all_goals refine hLoad ?_
          all_goals refine hLoad ?_
          all_goals refine hCheck ?_
          all_goals refine hField ?_
          all_goals refine hLoad ?_
          all_goals refine hQuo ?_
          all_goals refine hCheck ?_
          all_goals refine hField ?_
          all_goals refine hw_nil ?_
          all_goals (refine ow_cons ?_; first | refine kStore ?_ | refine kStoreA ?_ | refine kStoreR ?_)
          all_goals refine ow_nil ?_)
      | (
          refine cw_draw (id := 9) 8 (by kernel_rfl) (by kernel_rfl) rfl ?_
          all_goals refine hLoad ?_
          all_goals refine hLoad ?_
          all_goals refine hCheck ?_
          all_goals refine hField ?_
          all_goals refine hLoad ?_
          all_goals refine hMax ?_
          all_goals refine hCheck ?_
          all_goals refine hField ?_
          all_goals refine hw_nil ?_
          all_goals (refine ow_cons ?_; first | refine kStore ?_ | refine kStoreA ?_ | refine kStoreR ?_)
          all_goals refine ow_nil ?_)
      | (
          refine cw_region (id := 10) rfl ?_
          all_goals refine wMove ?_
          all_goals (refine ow_cons ?_; (refine st_call (av := [_]) rfl (numbers37 _ _ gone (by omega)) (.cons selA (.nil _)) ?_; rintro v L' ⟨a2, cap2, rfl, rfl⟩))
          all_goals refine wAssign ?_
          all_goals refine ow_nil ?_)
      | refine cw_seq ?_
      | refine tq_n ?_
      | (refine isCW ?_; first | refine cw_region rfl ?_ | refine cw_skip ?_ | refine cw_ret ?_ | refine cw_exit ?_ | refine cw_block ?_ | refine cTrue ?_ | refine cFalse ?_ | refine cT ?_ | refine cF ?_ | refine cS (fun hc => ?_) (fun hc => ?_) | refine cB (fun hc => ?_) (fun hc => ?_))
      | refine tq_ret ?_ | refine tq_exit ?_ | refine bq_n ?_ | refine bq_ret ?_ | refine bq_same ?_ | refine bq_ne rfl ?_
      | refine ow_cons ?_ | refine ow_nil ?_
      | (refine isOpK ?_; first
        | (refine isG ?_; first | refine opk_yes rfl rfl ?_ | refine opk_no rfl rfl ?_ | refine opk_no_undef rfl rfl ?_ | refine opk_g_t rfl rfl (by omega) ?_ | refine opk_g_f rfl rfl (by omega) ?_ | refine opk_g_s rfl rfl (fun hc => ?_) (fun hc => ?_) | refine opk_g_b rfl rfl (fun hc => ?_) (fun hc => ?_))
        | refine kRd ?_
        | refine kStore ?_
        | refine kStoreA ?_
        | refine kStoreR ?_
        | (refine kIdxR (fun g hg => ?_); subst hg)
        | (refine kIdxO (fun gb go hg => ?_); subst hg)
        | refine st_alloc (fun bN => ?_)
        | refine kBox (fun bN => ?_)
        | refine kBoxA (fun bN => ?_)
        | (refine st_buildSlice rfl rfl rfl rfl (fun bN => ?_))
        | (refine st_clearR rfl selA rfl (by omega) rfl rfl rfl ?_)
        | (refine st_clearR rfl selA (by omega) (by omega) rfl rfl rfl ?_)
        | (refine st_call (av := [_]) rfl (numbers37 _ _ gone (by omega)) (.cons selA (.nil _)) ?_; rintro v L' ⟨a2, cap2, rfl, rfl⟩))
      | refine hw_cons ?_ | refine hw_nil ?_
      | (refine isOpS ?_; first
        | (refine os_isG ?_; first | refine os_yes rfl rfl ?_ | refine os_no rfl rfl ?_ | refine os_no_undef rfl rfl ?_ | refine os_g_t rfl rfl (by omega) ?_ | refine os_g_f rfl rfl (by omega) ?_ | refine os_g_s rfl rfl (fun hc => ?_) (fun hc => ?_) | refine os_g_b rfl rfl (fun hc => ?_) (fun hc => ?_))
        | refine sRd ?_))
    rw [hin]
    rw [cut_waits]
    exact retM_ret1 selA (retV_tmps [4] rfl rfl) ⟨a2, cap2, rfl, rfl⟩ (fun _ _ h => pick3 h selA selA selA)
end Go.Proofs.Ytomaldjedncjoaa.E
