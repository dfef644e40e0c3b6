/-
The law LossGives, as the program's own code does it.
Conditions: each is said with its statement.
-/
import Derived.Test.YtomaldjedncjoaaM3
set_option linter.unusedVariables false
namespace Go.Proofs.Ytomaldjedncjoaa.E
open Go
set_option maxRecDepth 100000
set_option maxHeartbeats 4000000
theorem ackedAs (b bN : Nat) (a : Option Nat) (cap : Nat) (s s2 : St) (xs : List Sp) (t : Int) (l1 l2 : List Int) (ok : s.Ok) (hx : xs.length ≤ 1000) (he : s.acked xs 0 t = (s2, l1, l2, 0)) :
    Spec Go.Proofs.Try.prog 11 #[ptr b, .slice (some ⟨bN, 0, none⟩) xs.length xs.length, i6 0, i6 t] (stR b s a cap ++ [ro (some ⟨bN, 0, none⟩) tSp xs])
      (fun v L => ∃ a1 c1 a2 c2, v = .tuple #[.slice (oad a1) l1.length c1, .slice (oad a2) l2.length c2, i6 0] ∧ L = stR b s2 a cap ++ [row a1 3 c1 (tInt .i64) l1, row a2 3 c2 (tInt .i64) l2]) := by
  refine (acked11 b s a cap (some ⟨bN, 0, none⟩) xs.length xs 0 t (by omega) ok).mono ?_
  rw [he]
  rintro v L ⟨a1, c1, a2, c2, rfl, rfl⟩
  exact ⟨a1, c1, a2, c2, rfl, rfl⟩
theorem fireAs (b : Nat) (a : Option Nat) (cap : Nat) (s s2 : St) (t : Int) (l : List Int) (y : Bool) (ok : s.Ok) (he : s.fire t = (s2, l, y, 0)) :
    Spec Go.Proofs.Try.prog 13 #[ptr b, i6 t] (stR b s a cap) (fun v L => ∃ a' cap', v = .tuple #[.slice (oad a') l.length cap', .bool y, i6 0] ∧ L = stR b s2 a cap ++ [row a' 3 cap' (tInt .i64) l]) := by
  refine (fire13 b s a cap t ok).mono ?_
  rw [he]
  rintro v L ⟨a', cap', rfl, rfl⟩
  exact ⟨a', cap', rfl, rfl⟩
theorem timerAs (b : Nat) (s : St) (a : Option Nat) (cap : Nat) (ok : s.Ok) {t : Int} {y z : Bool} (he : s.timer = (t, y, z)) : Spec Go.Proofs.Try.prog 16 #[ptr b] (stR b s a cap) (fun v L => v = .tuple #[i6 t, .bool y] ∧ L = stR b s a cap) := by
  have := timer16 b s a cap ok.smooth ok.vary ok.tries ok.last (by have := ok.len; omega) (fun q hq => by have h1 := (ok.each q hq).at_; have h2 := ok.now; omega)
  rw [he] at this
  exact this
theorem gives5 (x y : Int) : Spec Go.Proofs.Try.prog 5 #[i6 x, i6 y] [] (fun v L => v = .bool true ∧ L = []) := by
  refine spec_of (args := [i6 x, i6 y]) Go.Proofs.Try.func5 rfl rfl fun w0 hw0 => ?_
  obtain ⟨m, hm⟩ : ∃ m : Nat, x % 18446744073709551616 % 40 = m := ⟨_, (Int.toNat_of_nonneg (by omega)).symm⟩
  obtain ⟨w, hw⟩ : ∃ w : Int, 1 + y % 18446744073709551616 % 500 = w := ⟨_, rfl⟩
  have hm39 : m ≤ 39 := by omega
  have hw500 : 1 ≤ w ∧ w ≤ 500 := by omega
  repeat' (first
    | (
        refine cw_region (id := 0) rfl ?_
        all_goals refine wAssign ?_
        all_goals refine ow_nil ?_)
    | (
        refine cw_region (id := 1) rfl ?_
        all_goals (refine ow_cons ?_; (refine st_call rfl travels8 (.nil _) ?_; rintro v L' ⟨rfl, rfl⟩))
        all_goals refine wNot ?_
        all_goals refine ow_nil ?_)
    | (
        refine cw_region (id := 2) rfl ?_
        all_goals refine wAssign ?_
        all_goals refine ow_nil ?_)
    | (
        refine cw_region (id := 3) rfl ?_
        all_goals refine wMove ?_
        all_goals refine wConv ?_
        all_goals refine wRem ?_
        all_goals refine wConv ?_
        all_goals refine wAdd ?_
        all_goals refine wMove ?_
        all_goals refine wConv ?_
        all_goals refine wRem ?_
        all_goals refine wConv ?_
        all_goals refine wAdd ?_
        all_goals refine wAssign ?_
        all_goals refine wAssign ?_
        all_goals refine ow_nil ?_)
    | (
        refine cw_region (id := 4) rfl ?_
        all_goals (refine ow_cons ?_; (refine st_call rfl new_spec (.nil _) ?_; rintro v L' ⟨b, rfl, rfl⟩))
        all_goals refine wAssign ?_
        all_goals refine ow_nil ?_)
    | (
        refine cw_region (id := 5) rfl ?_
        all_goals refine wAssign ?_
        all_goals refine ow_nil ?_)
    | (
        refine cw_region (id := 6) rfl ?_
        all_goals refine wMove ?_
        all_goals refine wMove ?_
        all_goals refine wLss ?_
        all_goals refine ow_nil ?_)
    | (
        refine cw_region (id := 9) rfl ?_
        all_goals refine wAssign ?_
        all_goals refine ow_nil ?_)
    | (
        refine cw_region (id := 7) rfl ?_
        all_goals refine wMove ?_
        all_goals refine wAdd ?_
        all_goals refine wAssign ?_
        all_goals refine ow_nil ?_)
    | (
        refine cw_region (id := 11) rfl ?_
        all_goals refine wMove ?_
        all_goals refine wNeq ?_
        all_goals refine wMove ?_
        all_goals (refine ow_cons ?_; first | refine gNo ?_ | refine gUn ?_ | (refine gYes ?_; refine kMove ?_) | (refine gTf ?_; refine kMove ?_) | refine gFf ?_ | (refine gSf (fun hc => ?_) (fun hc => ?_); rotate_left; (focus (refine kMove ?_)); rotate_right) | (refine gBf (fun hc => ?_) (fun hc => ?_); rotate_left; (focus (refine kMove ?_)); rotate_right))
        all_goals (refine ow_cons ?_; first | refine gNo ?_ | refine gUn ?_ | (refine gYes ?_; refine kLen ?_) | (refine gTf ?_; refine kLen ?_) | refine gFf ?_ | (refine gSf (fun hc => ?_) (fun hc => ?_); rotate_left; (focus (refine kLen ?_)); rotate_right) | (refine gBf (fun hc => ?_) (fun hc => ?_); rotate_left; (focus (refine kLen ?_)); rotate_right))
        all_goals (refine ow_cons ?_; first | refine gNo ?_ | refine gUn ?_ | (refine gYes ?_; refine kNeq ?_) | (refine gTf ?_; refine kNeq ?_) | refine gFf ?_ | (refine gSf (fun hc => ?_) (fun hc => ?_); rotate_left; (focus (refine kNeq ?_)); rotate_right) | (refine gBf (fun hc => ?_) (fun hc => ?_); rotate_left; (focus (refine kNeq ?_)); rotate_right))
        all_goals refine wPick ?_
        all_goals refine wMove ?_
        all_goals (refine ow_cons ?_; first | refine gNo ?_ | refine gUn ?_ | (refine gYes ?_; refine kMove ?_) | (refine gTf ?_; refine kMove ?_) | refine gFf ?_ | (refine gSf (fun hc => ?_) (fun hc => ?_); rotate_left; (focus (refine kMove ?_)); rotate_right) | (refine gBf (fun hc => ?_) (fun hc => ?_); rotate_left; (focus (refine kMove ?_)); rotate_right))
        all_goals (refine ow_cons ?_; first | refine gNo ?_ | refine gUn ?_ | (refine gYes ?_; first | refine kIndex ?_ | (refine kIdxR (fun g hg => ?_); subst hg) | (refine kIdxO (fun gb go hg => ?_); subst hg)) | (refine gTf ?_; first | refine kIndex ?_ | (refine kIdxR (fun g hg => ?_); subst hg) | (refine kIdxO (fun gb go hg => ?_); subst hg)) | refine gFf ?_ | (refine gSf (fun hc => ?_) (fun hc => ?_); rotate_left; (focus (first | refine kIndex ?_ | (refine kIdxR (fun g hg => ?_); subst hg) | (refine kIdxO (fun gb go hg => ?_); subst hg))); rotate_right) | (refine gBf (fun hc => ?_) (fun hc => ?_); rotate_left; (focus (first | refine kIndex ?_ | (refine kIdxR (fun g hg => ?_); subst hg) | (refine kIdxO (fun gb go hg => ?_); subst hg))); rotate_right))
        all_goals (refine ow_cons ?_; first | refine gNo ?_ | refine gUn ?_ | (refine gYes ?_; refine kLoad ?_) | (refine gTf ?_; refine kLoad ?_) | refine gFf ?_ | (refine gSf (fun hc => ?_) (fun hc => ?_); rotate_left; (focus (refine kLoad ?_)); rotate_right) | (refine gBf (fun hc => ?_) (fun hc => ?_); rotate_left; (focus (refine kLoad ?_)); rotate_right))
        all_goals (refine ow_cons ?_; first | refine gNo ?_ | refine gUn ?_ | (refine gYes ?_; refine kMove ?_) | (refine gTf ?_; refine kMove ?_) | refine gFf ?_ | (refine gSf (fun hc => ?_) (fun hc => ?_); rotate_left; (focus (refine kMove ?_)); rotate_right) | (refine gBf (fun hc => ?_) (fun hc => ?_); rotate_left; (focus (refine kMove ?_)); rotate_right))
        all_goals (refine ow_cons ?_; first | refine gNo ?_ | refine gUn ?_ | (refine gYes ?_; refine kSub ?_) | (refine gTf ?_; refine kSub ?_) | refine gFf ?_ | (refine gSf (fun hc => ?_) (fun hc => ?_); rotate_left; (focus (refine kSub ?_)); rotate_right) | (refine gBf (fun hc => ?_) (fun hc => ?_); rotate_left; (focus (refine kSub ?_)); rotate_right))
        all_goals (refine ow_cons ?_; first | refine gNo ?_ | refine gUn ?_ | (refine gYes ?_; refine kNeq ?_) | (refine gTf ?_; refine kNeq ?_) | refine gFf ?_ | (refine gSf (fun hc => ?_) (fun hc => ?_); rotate_left; (focus (refine kNeq ?_)); rotate_right) | (refine gBf (fun hc => ?_) (fun hc => ?_); rotate_left; (focus (refine kNeq ?_)); rotate_right))
        all_goals refine wPick ?_
        all_goals refine ow_nil ?_)
    | (
        refine cw_region (id := 12) rfl ?_
        all_goals refine wAssign ?_
        all_goals refine ow_nil ?_)
    | (
        refine cw_region (id := 13) rfl ?_
        all_goals refine wMove ?_
        all_goals refine wSub ?_
        all_goals refine wMax ?_
        all_goals refine wAssign ?_
        all_goals refine ow_nil ?_)
    | (
        refine cw_region (id := 14) rfl ?_
        all_goals refine wMove ?_
        all_goals refine wMul ?_
        all_goals refine wQuo ?_
        all_goals refine wMove ?_
        all_goals refine wLeq ?_
        all_goals refine wMove ?_
        all_goals (refine ow_cons ?_; first | refine gNo ?_ | refine gUn ?_ | (refine gYes ?_; refine kMove ?_) | (refine gTf ?_; refine kMove ?_) | refine gFf ?_ | (refine gSf (fun hc => ?_) (fun hc => ?_); rotate_left; (focus (refine kMove ?_)); rotate_right) | (refine gBf (fun hc => ?_) (fun hc => ?_); rotate_left; (focus (refine kMove ?_)); rotate_right))
        all_goals (refine ow_cons ?_; first | refine gNo ?_ | refine gUn ?_ | (refine gYes ?_; refine kLss ?_) | (refine gTf ?_; refine kLss ?_) | refine gFf ?_ | (refine gSf (fun hc => ?_) (fun hc => ?_); rotate_left; (focus (refine kLss ?_)); rotate_right) | (refine gBf (fun hc => ?_) (fun hc => ?_); rotate_left; (focus (refine kLss ?_)); rotate_right))
        all_goals refine wPick ?_
        all_goals refine ow_nil ?_)
    | (
        refine cw_region (id := 15) rfl ?_
        all_goals refine wMove ?_
        all_goals refine wLen ?_
        all_goals refine wMove ?_
        all_goals refine wGeq ?_
        all_goals refine wAssign ?_
        all_goals refine ow_nil ?_)
    | (
        refine cw_region (id := 16) rfl ?_
        all_goals refine wMove ?_
        all_goals refine wLen ?_
        all_goals refine wMove ?_
        all_goals refine wNeq ?_
        all_goals refine ow_nil ?_)
    | (
        refine cw_region (id := 17) rfl ?_
        all_goals refine wAssign ?_
        all_goals refine ow_nil ?_)
    | (
        refine cw_region (id := 18) rfl ?_
        all_goals refine wAssign ?_
        all_goals refine ow_nil ?_)
    | (
        refine cw_region (id := 19) rfl ?_
        all_goals refine wMove ?_
        all_goals refine wMove ?_
        all_goals refine wLen ?_
        all_goals refine wLss ?_
        all_goals refine ow_nil ?_)
    | (
        refine cw_region (id := 21) rfl ?_
        all_goals refine wMove ?_
        all_goals refine wMove ?_
        all_goals (refine ow_cons ?_; first | refine kIndex ?_ | (refine kIdxR (fun g hg => ?_); subst hg) | (refine kIdxO (fun gb go hg => ?_); subst hg))
        all_goals refine wLoad ?_
        all_goals refine wMove ?_
        all_goals refine wNeq ?_
        all_goals refine ow_nil ?_)
    | (
        refine cw_region (id := 22) rfl ?_
        all_goals refine wAssign ?_
        all_goals refine ow_nil ?_)
    | (
        refine cw_region (id := 20) rfl ?_
        all_goals refine wMove ?_
        all_goals refine wAdd ?_
        all_goals refine wAssign ?_
        all_goals refine ow_nil ?_)
    | (
        refine cw_region (id := 23) rfl ?_
        all_goals refine wMove ?_
        all_goals refine wEql ?_
        all_goals refine ow_nil ?_)
    | (
        refine cw_region (id := 27) rfl ?_
        all_goals refine wMove ?_
        all_goals refine wSub ?_
        all_goals refine wMove ?_
        all_goals refine wSub ?_
        all_goals refine wAssign ?_
        all_goals refine ow_nil ?_)
    | refine cw_seq ?_
    | refine tq_n ?_
    | (refine isCW ?_; first | refine cw_region rfl ?_ | refine cw_skip ?_ | refine cw_ret ?_ | refine cw_exit ?_ | refine cw_block ?_ | refine cTrue ?_ | refine cFalse ?_ | refine cT ?_ | refine cF ?_ | refine cS (fun hc => ?_) (fun hc => ?_) | refine cB (fun hc => ?_) (fun hc => ?_))
    | refine tq_ret ?_ | refine tq_exit ?_ | refine bq_n ?_ | refine bq_ret ?_ | refine bq_same ?_ | refine bq_ne rfl ?_
    | refine ow_cons ?_ | refine ow_nil ?_
    | (refine isOpK ?_; first
      | (refine isG ?_; first | refine opk_yes rfl rfl ?_ | refine opk_no rfl rfl ?_ | refine opk_no_undef rfl rfl ?_ | refine opk_g_t rfl rfl (by omega) ?_ | refine opk_g_f rfl rfl (by omega) ?_ | refine opk_g_s rfl rfl (fun hc => ?_) (fun hc => ?_) | refine opk_g_b rfl rfl (fun hc => ?_) (fun hc => ?_))
      | refine kRd ?_
      | refine kStore ?_
      | refine kStoreA ?_
      | refine kStoreR ?_
      | (refine kIdxR (fun g hg => ?_); subst hg)
      | (refine kIdxO (fun gb go hg => ?_); subst hg)
      | refine st_alloc (fun bN => ?_)
      | refine kBox (fun bN => ?_)
      | refine kBoxA (fun bN => ?_)
      | (refine st_buildSlice rfl rfl rfl rfl (fun bN => ?_))
      | (refine st_clearR rfl selA rfl (by omega) rfl rfl rfl ?_)
      | (refine st_clearR rfl selA (by omega) (by omega) rfl rfl rfl ?_)
      | (refine st_call rfl travels8 (.nil _) ?_; rintro v L' ⟨rfl, rfl⟩)
      | (refine st_call rfl new_spec (.nil _) ?_; rintro v L' ⟨b, rfl, rfl⟩))
    | refine hw_cons ?_ | refine hw_nil ?_
    | (refine isOpS ?_; first
      | (refine os_isG ?_; first | refine os_yes rfl rfl ?_ | refine os_no rfl rfl ?_ | refine os_no_undef rfl rfl ?_ | refine os_g_t rfl rfl (by omega) ?_ | refine os_g_f rfl rfl (by omega) ?_ | refine os_g_s rfl rfl (fun hc => ?_) (fun hc => ?_) | refine os_g_b rfl rfl (fun hc => ?_) (fun hc => ?_))
      | refine sRd ?_))
  refine cw_rounds (S := fun g : Nat × Option Nat × Nat => [(0, i6 ((m : Int) + 1)), (1, i6 w), (4, .bool false), (5, ptr b), (6, .int .i64 (g.1 : Nat))]) (H := fun g => stR b (sends 50 10 g.1) g.2.1 g.2.2)
    (V := fun g => g.1 ≤ m + 1) (μ := fun g => m + 1 - g.1) (0, none, 0) ⟨congrArg i6 (show (1 : Int) + x % 18446744073709551616 % 40 = (m : Int) + 1 by omega), congrArg i6 hw, rfl, rfl, rfl, trivial⟩ (by simp only; omega) (fun _ h => h) ?_
  rintro ⟨i, a, cap⟩ e' hi
  simp only at hi
  dsimp only [upds]
  rcases Nat.lt_or_ge i (m + 1) with hlt | hge
  · unfold stR
    repeat' (first
      | (
          refine cw_region (id := 0) rfl ?_
          all_goals refine wAssign ?_
          all_goals refine ow_nil ?_)
      | (
          refine cw_region (id := 2) rfl ?_
          all_goals refine wAssign ?_
          all_goals refine ow_nil ?_)
      | (
          refine cw_region (id := 3) rfl ?_
          all_goals refine wMove ?_
          all_goals refine wConv ?_
          all_goals refine wRem ?_
          all_goals refine wConv ?_
          all_goals refine wAdd ?_
          all_goals refine wMove ?_
          all_goals refine wConv ?_
          all_goals refine wRem ?_
          all_goals refine wConv ?_
          all_goals refine wAdd ?_
          all_goals refine wAssign ?_
          all_goals refine wAssign ?_
          all_goals refine ow_nil ?_)
      | (
          refine cw_region (id := 5) rfl ?_
          all_goals refine wAssign ?_
          all_goals refine ow_nil ?_)
      | (
          refine cw_region (id := 6) rfl ?_
          all_goals refine wMove ?_
          all_goals refine wMove ?_
          all_goals refine wLss ?_
          all_goals refine ow_nil ?_)
      | (
          refine cw_region (id := 8) rfl ?_
          all_goals refine wMove ?_
          all_goals refine wMove ?_
          all_goals (refine ow_cons ?_; (refine st_call (av := [_, _, _, _, _]) rfl (sends_spec b 50 10 i a cap (by decide) (by decide) (by omega)) (selL_all _) ?_; rintro v L' ⟨a', cap', rfl, rfl⟩))
          all_goals refine wNeq ?_
          all_goals refine ow_nil ?_)
      | (
          refine cw_region (id := 9) rfl ?_
          all_goals refine wAssign ?_
          all_goals refine ow_nil ?_)
      | (
          refine cw_region (id := 7) rfl ?_
          all_goals refine wMove ?_
          all_goals refine wAdd ?_
          all_goals refine wAssign ?_
          all_goals refine ow_nil ?_)
      | (
          refine cw_region (id := 11) rfl ?_
          all_goals refine wMove ?_
          all_goals refine wNeq ?_
          all_goals refine wMove ?_
          all_goals (refine ow_cons ?_; first | refine gNo ?_ | refine gUn ?_ | (refine gYes ?_; refine kMove ?_) | (refine gTf ?_; refine kMove ?_) | refine gFf ?_ | (refine gSf (fun hc => ?_) (fun hc => ?_); rotate_left; (focus (refine kMove ?_)); rotate_right) | (refine gBf (fun hc => ?_) (fun hc => ?_); rotate_left; (focus (refine kMove ?_)); rotate_right))
          all_goals (refine ow_cons ?_; first | refine gNo ?_ | refine gUn ?_ | (refine gYes ?_; refine kLen ?_) | (refine gTf ?_; refine kLen ?_) | refine gFf ?_ | (refine gSf (fun hc => ?_) (fun hc => ?_); rotate_left; (focus (refine kLen ?_)); rotate_right) | (refine gBf (fun hc => ?_) (fun hc => ?_); rotate_left; (focus (refine kLen ?_)); rotate_right))
          all_goals (refine ow_cons ?_; first | refine gNo ?_ | refine gUn ?_ | (refine gYes ?_; refine kNeq ?_) | (refine gTf ?_; refine kNeq ?_) | refine gFf ?_ | (refine gSf (fun hc => ?_) (fun hc => ?_); rotate_left; (focus (refine kNeq ?_)); rotate_right) | (refine gBf (fun hc => ?_) (fun hc => ?_); rotate_left; (focus (refine kNeq ?_)); rotate_right))
          all_goals refine wPick ?_
          all_goals refine wMove ?_
          all_goals (refine ow_cons ?_; first | refine gNo ?_ | refine gUn ?_ | (refine gYes ?_; refine kMove ?_) | (refine gTf ?_; refine kMove ?_) | refine gFf ?_ | (refine gSf (fun hc => ?_) (fun hc => ?_); rotate_left; (focus (refine kMove ?_)); rotate_right) | (refine gBf (fun hc => ?_) (fun hc => ?_); rotate_left; (focus (refine kMove ?_)); rotate_right))
          all_goals (refine ow_cons ?_; first | refine gNo ?_ | refine gUn ?_ | (refine gYes ?_; first | refine kIndex ?_ | (refine kIdxR (fun g hg => ?_); subst hg) | (refine kIdxO (fun gb go hg => ?_); subst hg)) | (refine gTf ?_; first | refine kIndex ?_ | (refine kIdxR (fun g hg => ?_); subst hg) | (refine kIdxO (fun gb go hg => ?_); subst hg)) | refine gFf ?_ | (refine gSf (fun hc => ?_) (fun hc => ?_); rotate_left; (focus (first | refine kIndex ?_ | (refine kIdxR (fun g hg => ?_); subst hg) | (refine kIdxO (fun gb go hg => ?_); subst hg))); rotate_right) | (refine gBf (fun hc => ?_) (fun hc => ?_); rotate_left; (focus (first | refine kIndex ?_ | (refine kIdxR (fun g hg => ?_); subst hg) | (refine kIdxO (fun gb go hg => ?_); subst hg))); rotate_right))
          all_goals (refine ow_cons ?_; first | refine gNo ?_ | refine gUn ?_ | (refine gYes ?_; refine kLoad ?_) | (refine gTf ?_; refine kLoad ?_) | refine gFf ?_ | (refine gSf (fun hc => ?_) (fun hc => ?_); rotate_left; (focus (refine kLoad ?_)); rotate_right) | (refine gBf (fun hc => ?_) (fun hc => ?_); rotate_left; (focus (refine kLoad ?_)); rotate_right))
          all_goals (refine ow_cons ?_; first | refine gNo ?_ | refine gUn ?_ | (refine gYes ?_; refine kMove ?_) | (refine gTf ?_; refine kMove ?_) | refine gFf ?_ | (refine gSf (fun hc => ?_) (fun hc => ?_); rotate_left; (focus (refine kMove ?_)); rotate_right) | (refine gBf (fun hc => ?_) (fun hc => ?_); rotate_left; (focus (refine kMove ?_)); rotate_right))
          all_goals (refine ow_cons ?_; first | refine gNo ?_ | refine gUn ?_ | (refine gYes ?_; refine kSub ?_) | (refine gTf ?_; refine kSub ?_) | refine gFf ?_ | (refine gSf (fun hc => ?_) (fun hc => ?_); rotate_left; (focus (refine kSub ?_)); rotate_right) | (refine gBf (fun hc => ?_) (fun hc => ?_); rotate_left; (focus (refine kSub ?_)); rotate_right))
          all_goals (refine ow_cons ?_; first | refine gNo ?_ | refine gUn ?_ | (refine gYes ?_; refine kNeq ?_) | (refine gTf ?_; refine kNeq ?_) | refine gFf ?_ | (refine gSf (fun hc => ?_) (fun hc => ?_); rotate_left; (focus (refine kNeq ?_)); rotate_right) | (refine gBf (fun hc => ?_) (fun hc => ?_); rotate_left; (focus (refine kNeq ?_)); rotate_right))
          all_goals refine wPick ?_
          all_goals refine ow_nil ?_)
      | (
          refine cw_region (id := 12) rfl ?_
          all_goals refine wAssign ?_
          all_goals refine ow_nil ?_)
      | (
          refine cw_region (id := 13) rfl ?_
          all_goals refine wMove ?_
          all_goals refine wSub ?_
          all_goals refine wMax ?_
          all_goals refine wAssign ?_
          all_goals refine ow_nil ?_)
      | (
          refine cw_region (id := 14) rfl ?_
          all_goals refine wMove ?_
          all_goals refine wMul ?_
          all_goals refine wQuo ?_
          all_goals refine wMove ?_
          all_goals refine wLeq ?_
          all_goals refine wMove ?_
          all_goals (refine ow_cons ?_; first | refine gNo ?_ | refine gUn ?_ | (refine gYes ?_; refine kMove ?_) | (refine gTf ?_; refine kMove ?_) | refine gFf ?_ | (refine gSf (fun hc => ?_) (fun hc => ?_); rotate_left; (focus (refine kMove ?_)); rotate_right) | (refine gBf (fun hc => ?_) (fun hc => ?_); rotate_left; (focus (refine kMove ?_)); rotate_right))
          all_goals (refine ow_cons ?_; first | refine gNo ?_ | refine gUn ?_ | (refine gYes ?_; refine kLss ?_) | (refine gTf ?_; refine kLss ?_) | refine gFf ?_ | (refine gSf (fun hc => ?_) (fun hc => ?_); rotate_left; (focus (refine kLss ?_)); rotate_right) | (refine gBf (fun hc => ?_) (fun hc => ?_); rotate_left; (focus (refine kLss ?_)); rotate_right))
          all_goals refine wPick ?_
          all_goals refine ow_nil ?_)
      | (
          refine cw_region (id := 15) rfl ?_
          all_goals refine wMove ?_
          all_goals refine wLen ?_
          all_goals refine wMove ?_
          all_goals refine wGeq ?_
          all_goals refine wAssign ?_
          all_goals refine ow_nil ?_)
      | (
          refine cw_region (id := 16) rfl ?_
          all_goals refine wMove ?_
          all_goals refine wLen ?_
          all_goals refine wMove ?_
          all_goals refine wNeq ?_
          all_goals refine ow_nil ?_)
      | (
          refine cw_region (id := 17) rfl ?_
          all_goals refine wAssign ?_
          all_goals refine ow_nil ?_)
      | (
          refine cw_region (id := 18) rfl ?_
          all_goals refine wAssign ?_
          all_goals refine ow_nil ?_)
      | (
          refine cw_region (id := 19) rfl ?_
          all_goals refine wMove ?_
          all_goals refine wMove ?_
          all_goals refine wLen ?_
          all_goals refine wLss ?_
          all_goals refine ow_nil ?_)
      | (
          refine cw_region (id := 21) rfl ?_
          all_goals refine wMove ?_
          all_goals refine wMove ?_
          all_goals (refine ow_cons ?_; first | refine kIndex ?_ | (refine kIdxR (fun g hg => ?_); subst hg) | (refine kIdxO (fun gb go hg => ?_); subst hg))
          all_goals refine wLoad ?_
          all_goals refine wMove ?_
          all_goals refine wNeq ?_
          all_goals refine ow_nil ?_)
      | (
          refine cw_region (id := 22) rfl ?_
          all_goals refine wAssign ?_
          all_goals refine ow_nil ?_)
      | (
          refine cw_region (id := 20) rfl ?_
          all_goals refine wMove ?_
          all_goals refine wAdd ?_
          all_goals refine wAssign ?_
          all_goals refine ow_nil ?_)
      | (
          refine cw_region (id := 23) rfl ?_
          all_goals refine wMove ?_
          all_goals refine wEql ?_
          all_goals refine ow_nil ?_)
      | (
          refine cw_region (id := 27) rfl ?_
          all_goals refine wMove ?_
          all_goals refine wSub ?_
          all_goals refine wMove ?_
          all_goals refine wSub ?_
          all_goals refine wAssign ?_
          all_goals refine ow_nil ?_)
      | refine cw_seq ?_
      | refine tq_n ?_
      | (refine isCW ?_; first | refine cw_region rfl ?_ | refine cw_skip ?_ | refine cw_ret ?_ | refine cw_exit ?_ | refine cw_block ?_ | refine cTrue ?_ | refine cFalse ?_ | refine cT ?_ | refine cF ?_ | refine cS (fun hc => ?_) (fun hc => ?_) | refine cB (fun hc => ?_) (fun hc => ?_))
      | refine tq_ret ?_ | refine tq_exit ?_ | refine bq_n ?_ | refine bq_ret ?_ | refine bq_same ?_ | refine bq_ne rfl ?_
      | refine ow_cons ?_ | refine ow_nil ?_
      | (refine isOpK ?_; first
        | (refine isG ?_; first | refine opk_yes rfl rfl ?_ | refine opk_no rfl rfl ?_ | refine opk_no_undef rfl rfl ?_ | refine opk_g_t rfl rfl (by omega) ?_ | refine opk_g_f rfl rfl (by omega) ?_ | refine opk_g_s rfl rfl (fun hc => ?_) (fun hc => ?_) | refine opk_g_b rfl rfl (fun hc => ?_) (fun hc => ?_))
        | refine kRd ?_
        | refine kStore ?_
        | refine kStoreA ?_
        | refine kStoreR ?_
        | (refine kIdxR (fun g hg => ?_); subst hg)
        | (refine kIdxO (fun gb go hg => ?_); subst hg)
        | refine st_alloc (fun bN => ?_)
        | refine kBox (fun bN => ?_)
        | refine kBoxA (fun bN => ?_)
        | (refine st_buildSlice rfl rfl rfl rfl (fun bN => ?_))
        | (refine st_clearR rfl selA rfl (by omega) rfl rfl rfl ?_)
        | (refine st_clearR rfl selA (by omega) (by omega) rfl rfl rfl ?_)
        | (refine st_call (av := [_, _, _, _, _]) rfl (sends_spec b 50 10 i a cap (by decide) (by decide) (by omega)) (selL_all _) ?_; rintro v L' ⟨a', cap', rfl, rfl⟩))
      | refine hw_cons ?_ | refine hw_nil ?_
      | (refine isOpS ?_; first
        | (refine os_isG ?_; first | refine os_yes rfl rfl ?_ | refine os_no rfl rfl ?_ | refine os_no_undef rfl rfl ?_ | refine os_g_t rfl rfl (by omega) ?_ | refine os_g_f rfl rfl (by omega) ?_ | refine os_g_s rfl rfl (fun hc => ?_) (fun hc => ?_) | refine os_g_b rfl rfl (fun hc => ?_) (fun hc => ?_))
        | refine sRd ?_))
    exact lp_end (i + 1, a', cap') ⟨rfl, rfl, rfl, rfl, rfl, trivial⟩ (by simp only; omega) (by simp only; omega) (fun _ h => pick2 h selA selA)
  have hie : i = m + 1 := by omega
  subst hie
  clear hm hw hi hge
  have hk0 : ([(m : Int)] : List Int)[0]? = some (m : Int) := rfl
  have hmm : (m : Int) + 1 - 1 = m := by omega
  have he := gives_acked m w hm39 hw500
  have ok0 := sends_ok (size := 50) (t := 10) (by decide) (by decide) (m + 1) (by omega)
  have ok1 := acked_ok ok0 [⟨m, m⟩] 0 (10 + w)
  rw [he] at ok1
  by_cases hcase : max (9 * w / 8) 1 ≤ w
  · have hl := gives_all m w hcase
    rw [hl] at he
    have hlen : ((pks 50 10 m).map (·.number)).length = m := by rw [List.length_map, pks_length]
    generalize (pks 50 10 m).map (·.number) = l at he hlen
    unfold stR
    repeat' (first
      | (
          refine cw_region (id := 0) rfl ?_
          all_goals refine wAssign ?_
          all_goals refine ow_nil ?_)
      | (
          refine cw_region (id := 2) rfl ?_
          all_goals refine wAssign ?_
          all_goals refine ow_nil ?_)
      | (
          refine cw_region (id := 3) rfl ?_
          all_goals refine wMove ?_
          all_goals refine wConv ?_
          all_goals refine wRem ?_
          all_goals refine wConv ?_
          all_goals refine wAdd ?_
          all_goals refine wMove ?_
          all_goals refine wConv ?_
          all_goals refine wRem ?_
          all_goals refine wConv ?_
          all_goals refine wAdd ?_
          all_goals refine wAssign ?_
          all_goals refine wAssign ?_
          all_goals refine ow_nil ?_)
      | (
          refine cw_region (id := 5) rfl ?_
          all_goals refine wAssign ?_
          all_goals refine ow_nil ?_)
      | (
          refine cw_region (id := 6) rfl ?_
          all_goals refine wMove ?_
          all_goals refine wMove ?_
          all_goals refine wLss ?_
          all_goals refine ow_nil ?_)
      | (
          refine cw_region (id := 9) rfl ?_
          all_goals refine wAssign ?_
          all_goals refine ow_nil ?_)
      | (
          refine cw_region (id := 7) rfl ?_
          all_goals refine wMove ?_
          all_goals refine wAdd ?_
          all_goals refine wAssign ?_
          all_goals refine ow_nil ?_)
      | (
          refine cw_region (id := 10) rfl ?_
          all_goals refine wMove ?_
          all_goals refine wMove ?_
          all_goals refine wSub ?_
          all_goals refine wMove ?_
          all_goals refine wSub ?_
          all_goals (refine ow_cons ?_; refine st_rd (rd_build (vs := [.int _ _, .int _ _]) rfl) ?_)
          all_goals (refine ow_cons ?_; refine st_buildSlice (vs := [.int _ _, .int _ _]) rfl rfl rfl rfl (fun bN => ?_))
          all_goals refine wMove ?_
          all_goals refine wAdd ?_
          all_goals (refine ow_cons ?_; (refine OpK.heap ?_ (fun w h => tr_blk_ro (cs := [i6 ((m : Int) + 1 - 1), i6 ((m : Int) + 1 - 1)]) tSp [⟨m, m⟩] (by rw [hmm]; rfl) selA h); refine st_call (av := [_, _, _, _]) rfl (ackedAs b bN a cap _ _ [⟨m, m⟩] _ _ _ ok0 (by simp) he) (.cons selA (.cons selA (.cons selA (.nil _)))) ?_; rintro v L' ⟨a1, c1, a2, c2, rfl, rfl⟩))
          all_goals refine wMove ?_
          all_goals refine wExtract ?_
          all_goals refine wExtract ?_
          all_goals refine wExtract ?_
          all_goals refine wAssign ?_
          all_goals refine wAssign ?_
          all_goals refine wAssign ?_
          all_goals refine ow_nil ?_)
      | (
          refine cw_region (id := 11) rfl ?_
          all_goals refine wMove ?_
          all_goals refine wNeq ?_
          all_goals refine wMove ?_
          all_goals (refine ow_cons ?_; first | refine gNo ?_ | refine gUn ?_ | (refine gYes ?_; refine kMove ?_) | (refine gTf ?_; refine kMove ?_) | refine gFf ?_ | (refine gSf (fun hc => ?_) (fun hc => ?_); rotate_left; (focus (refine kMove ?_)); rotate_right) | (refine gBf (fun hc => ?_) (fun hc => ?_); rotate_left; (focus (refine kMove ?_)); rotate_right))
          all_goals (refine ow_cons ?_; first | refine gNo ?_ | refine gUn ?_ | (refine gYes ?_; refine kLen ?_) | (refine gTf ?_; refine kLen ?_) | refine gFf ?_ | (refine gSf (fun hc => ?_) (fun hc => ?_); rotate_left; (focus (refine kLen ?_)); rotate_right) | (refine gBf (fun hc => ?_) (fun hc => ?_); rotate_left; (focus (refine kLen ?_)); rotate_right))
          all_goals (refine ow_cons ?_; first | refine gNo ?_ | refine gUn ?_ | (refine gYes ?_; refine kNeq ?_) | (refine gTf ?_; refine kNeq ?_) | refine gFf ?_ | (refine gSf (fun hc => ?_) (fun hc => ?_); rotate_left; (focus (refine kNeq ?_)); rotate_right) | (refine gBf (fun hc => ?_) (fun hc => ?_); rotate_left; (focus (refine kNeq ?_)); rotate_right))
          all_goals refine wPick ?_
          all_goals refine wMove ?_
          all_goals (refine ow_cons ?_; first | refine gNo ?_ | refine gUn ?_ | (refine gYes ?_; refine kMove ?_) | (refine gTf ?_; refine kMove ?_) | refine gFf ?_ | (refine gSf (fun hc => ?_) (fun hc => ?_); rotate_left; (focus (refine kMove ?_)); rotate_right) | (refine gBf (fun hc => ?_) (fun hc => ?_); rotate_left; (focus (refine kMove ?_)); rotate_right))
          all_goals (refine ow_cons ?_; first | refine gNo ?_ | refine gUn ?_ | (refine gYes ?_; first | refine kIndex ?_ | (refine st_idxRi 0 rfl rfl rfl selA (by simp) (by simp) (fun g hg => ?_); subst hg) | (refine kIdxR (fun g hg => ?_); subst hg) | (refine kIdxO (fun gb go hg => ?_); subst hg)) | (refine gTf ?_; first | refine kIndex ?_ | (refine st_idxRi 0 rfl rfl rfl selA (by simp) (by simp) (fun g hg => ?_); subst hg) | (refine kIdxR (fun g hg => ?_); subst hg) | (refine kIdxO (fun gb go hg => ?_); subst hg)) | refine gFf ?_ | (refine gSf (fun hc => ?_) (fun hc => ?_); rotate_left; (focus (first | refine kIndex ?_ | (refine st_idxRi 0 rfl rfl rfl selA (by simp) (by simp) (fun g hg => ?_); subst hg) | (refine kIdxR (fun g hg => ?_); subst hg) | (refine kIdxO (fun gb go hg => ?_); subst hg))); rotate_right) | (refine gBf (fun hc => ?_) (fun hc => ?_); rotate_left; (focus (first | refine kIndex ?_ | (refine st_idxRi 0 rfl rfl rfl selA (by simp) (by simp) (fun g hg => ?_); subst hg) | (refine kIdxR (fun g hg => ?_); subst hg) | (refine kIdxO (fun gb go hg => ?_); subst hg))); rotate_right))
          all_goals (refine ow_cons ?_; first | refine gNo ?_ | refine gUn ?_ | (refine gYes ?_; refine kLoad ?_) | (refine gTf ?_; refine kLoad ?_) | refine gFf ?_ | (refine gSf (fun hc => ?_) (fun hc => ?_); rotate_left; (focus (refine kLoad ?_)); rotate_right) | (refine gBf (fun hc => ?_) (fun hc => ?_); rotate_left; (focus (refine kLoad ?_)); rotate_right))
          all_goals (refine ow_cons ?_; first | refine gNo ?_ | refine gUn ?_ | (refine gYes ?_; refine kMove ?_) | (refine gTf ?_; refine kMove ?_) | refine gFf ?_ | (refine gSf (fun hc => ?_) (fun hc => ?_); rotate_left; (focus (refine kMove ?_)); rotate_right) | (refine gBf (fun hc => ?_) (fun hc => ?_); rotate_left; (focus (refine kMove ?_)); rotate_right))
          all_goals (refine ow_cons ?_; first | refine gNo ?_ | refine gUn ?_ | (refine gYes ?_; refine kSub ?_) | (refine gTf ?_; refine kSub ?_) | refine gFf ?_ | (refine gSf (fun hc => ?_) (fun hc => ?_); rotate_left; (focus (refine kSub ?_)); rotate_right) | (refine gBf (fun hc => ?_) (fun hc => ?_); rotate_left; (focus (refine kSub ?_)); rotate_right))
          all_goals (refine ow_cons ?_; first | refine gNo ?_ | refine gUn ?_ | (refine gYes ?_; refine kNeq ?_) | (refine gTf ?_; refine kNeq ?_) | refine gFf ?_ | (refine gSf (fun hc => ?_) (fun hc => ?_); rotate_left; (focus (refine kNeq ?_)); rotate_right) | (refine gBf (fun hc => ?_) (fun hc => ?_); rotate_left; (focus (refine kNeq ?_)); rotate_right))
          all_goals refine wPick ?_
          all_goals refine ow_nil ?_)
      | (
          refine cw_region (id := 12) rfl ?_
          all_goals refine wAssign ?_
          all_goals refine ow_nil ?_)
      | (
          refine cw_region (id := 13) rfl ?_
          all_goals refine wMove ?_
          all_goals refine wSub ?_
          all_goals refine wMax ?_
          all_goals refine wAssign ?_
          all_goals refine ow_nil ?_)
      | (
          refine cw_region (id := 14) rfl ?_
          all_goals refine wMove ?_
          all_goals refine wMul ?_
          all_goals refine wQuo ?_
          all_goals refine wMove ?_
          all_goals refine wLeq ?_
          all_goals refine wMove ?_
          all_goals (refine ow_cons ?_; first | refine gNo ?_ | refine gUn ?_ | (refine gYes ?_; refine kMove ?_) | (refine gTf ?_; refine kMove ?_) | refine gFf ?_ | (refine gSf (fun hc => ?_) (fun hc => ?_); rotate_left; (focus (refine kMove ?_)); rotate_right) | (refine gBf (fun hc => ?_) (fun hc => ?_); rotate_left; (focus (refine kMove ?_)); rotate_right))
          all_goals (refine ow_cons ?_; first | refine gNo ?_ | refine gUn ?_ | (refine gYes ?_; refine kLss ?_) | (refine gTf ?_; refine kLss ?_) | refine gFf ?_ | (refine gSf (fun hc => ?_) (fun hc => ?_); rotate_left; (focus (refine kLss ?_)); rotate_right) | (refine gBf (fun hc => ?_) (fun hc => ?_); rotate_left; (focus (refine kLss ?_)); rotate_right))
          all_goals refine wPick ?_
          all_goals refine ow_nil ?_)
      | (
          refine cw_region (id := 15) rfl ?_
          all_goals refine wMove ?_
          all_goals refine wLen ?_
          all_goals refine wMove ?_
          all_goals refine wGeq ?_
          all_goals refine wAssign ?_
          all_goals refine ow_nil ?_)
      | (
          refine cw_region (id := 16) rfl ?_
          all_goals refine wMove ?_
          all_goals refine wLen ?_
          all_goals refine wMove ?_
          all_goals refine wNeq ?_
          all_goals refine ow_nil ?_)
      | (
          refine cw_region (id := 17) rfl ?_
          all_goals refine wAssign ?_
          all_goals refine ow_nil ?_)
      | (
          refine cw_region (id := 18) rfl ?_
          all_goals refine wAssign ?_
          all_goals refine ow_nil ?_)
      | (
          refine cw_region (id := 19) rfl ?_
          all_goals refine wMove ?_
          all_goals refine wMove ?_
          all_goals refine wLen ?_
          all_goals refine wLss ?_
          all_goals refine ow_nil ?_)
      | (
          refine cw_region (id := 21) rfl ?_
          all_goals refine wMove ?_
          all_goals refine wMove ?_
          all_goals (refine ow_cons ?_; first | refine kIndex ?_ | (refine st_idxRi 0 rfl rfl rfl selA (by simp) (by simp) (fun g hg => ?_); subst hg) | (refine kIdxR (fun g hg => ?_); subst hg) | (refine kIdxO (fun gb go hg => ?_); subst hg))
          all_goals refine wLoad ?_
          all_goals refine wMove ?_
          all_goals refine wNeq ?_
          all_goals refine ow_nil ?_)
      | (
          refine cw_region (id := 22) rfl ?_
          all_goals refine wAssign ?_
          all_goals refine ow_nil ?_)
      | (
          refine cw_region (id := 20) rfl ?_
          all_goals refine wMove ?_
          all_goals refine wAdd ?_
          all_goals refine wAssign ?_
          all_goals refine ow_nil ?_)
      | (
          refine cw_region (id := 23) rfl ?_
          all_goals refine wMove ?_
          all_goals refine wEql ?_
          all_goals refine ow_nil ?_)
      | (
          refine cw_region (id := 27) rfl ?_
          all_goals refine wMove ?_
          all_goals refine wSub ?_
          all_goals refine wMove ?_
          all_goals refine wSub ?_
          all_goals refine wAssign ?_
          all_goals refine ow_nil ?_)
      | refine cw_seq ?_
      | refine tq_n ?_
      | (refine isCW ?_; first | refine cw_region rfl ?_ | refine cw_skip ?_ | refine cw_ret ?_ | refine cw_exit ?_ | refine cw_block ?_ | refine cTrue ?_ | refine cFalse ?_ | refine cT ?_ | refine cF ?_ | refine cS (fun hc => ?_) (fun hc => ?_) | refine cB (fun hc => ?_) (fun hc => ?_))
      | refine tq_ret ?_ | refine tq_exit ?_ | refine bq_n ?_ | refine bq_ret ?_ | refine bq_same ?_ | refine bq_ne rfl ?_
      | refine ow_cons ?_ | refine ow_nil ?_
      | (refine isOpK ?_; first
        | (refine isG ?_; first | refine opk_yes rfl rfl ?_ | refine opk_no rfl rfl ?_ | refine opk_no_undef rfl rfl ?_ | refine opk_g_t rfl rfl (by omega) ?_ | refine opk_g_f rfl rfl (by omega) ?_ | refine opk_g_s rfl rfl (fun hc => ?_) (fun hc => ?_) | refine opk_g_b rfl rfl (fun hc => ?_) (fun hc => ?_))
        | refine kRd ?_
        | refine kStore ?_
        | refine kStoreA ?_
        | refine kStoreR ?_
        | (refine st_idxRi 0 rfl rfl rfl selA (by simp) (by simp) (fun g hg => ?_); subst hg)
        | (refine kIdxR (fun g hg => ?_); subst hg)
        | (refine kIdxO (fun gb go hg => ?_); subst hg)
        | refine st_alloc (fun bN => ?_)
        | refine kBox (fun bN => ?_)
        | refine kBoxA (fun bN => ?_)
        | (refine st_buildSlice rfl rfl rfl rfl (fun bN => ?_))
        | (refine st_clearR rfl selA rfl (by omega) rfl rfl rfl ?_)
        | (refine st_clearR rfl selA (by omega) (by omega) rfl rfl rfl ?_)
        | (refine OpK.heap ?_ (fun w h => tr_blk_ro (cs := [i6 ((m : Int) + 1 - 1), i6 ((m : Int) + 1 - 1)]) tSp [⟨m, m⟩] (by rw [hmm]; rfl) selA h); refine st_call (av := [_, _, _, _]) rfl (ackedAs b bN a cap _ _ [⟨m, m⟩] _ _ _ ok0 (by simp) he) (.cons selA (.cons selA (.cons selA (.nil _)))) ?_; rintro v L' ⟨a1, c1, a2, c2, rfl, rfl⟩))
      | refine hw_cons ?_ | refine hw_nil ?_
      | (refine isOpS ?_; first
        | (refine os_isG ?_; first | refine os_yes rfl rfl ?_ | refine os_no rfl rfl ?_ | refine os_no_undef rfl rfl ?_ | refine os_g_t rfl rfl (by omega) ?_ | refine os_g_f rfl rfl (by omega) ?_ | refine os_g_s rfl rfl (fun hc => ?_) (fun hc => ?_) | refine os_g_b rfl rfl (fun hc => ?_) (fun hc => ?_))
        | refine sRd ?_))
    all_goals exact retQ_ret (retV_tmps [4] rfl rfl) ⟨(dec_t (by omega)).symm, rfl⟩ (fun _ _ h => pick0 h)
  · have hl := gives_early m w (by omega)
    rw [hl, gives_numbers] at he
    have hz : m = 0 → ((givesA m w).give (10 + w)).flight = 0 := fun h0 => give_flight ok1 (by rw [(give_fields _ _).1]; subst h0; rfl)
    have hlen : ((List.range (m - 2)).map (fun i : Nat => (i : Int))).length = m - 2 := by simp
    have hget : ∀ i, i < m - 2 → ((List.range (m - 2)).map (fun i : Nat => (i : Int)))[i]? = some (i : Int) := fun i hi => by simp [hi]
    generalize (List.range (m - 2)).map (fun i : Nat => (i : Int)) = l at he hlen hget
    obtain ⟨s1, hs1⟩ : ∃ s1, (givesA m w).give (10 + w) = s1 := ⟨_, rfl⟩
    rw [hs1] at he hz ok1
    unfold stR
    repeat' (first
      | (
          refine cw_region (id := 0) rfl ?_
          all_goals refine wAssign ?_
          all_goals refine ow_nil ?_)
      | (
          refine cw_region (id := 2) rfl ?_
          all_goals refine wAssign ?_
          all_goals refine ow_nil ?_)
      | (
          refine cw_region (id := 3) rfl ?_
          all_goals refine wMove ?_
          all_goals refine wConv ?_
          all_goals refine wRem ?_
          all_goals refine wConv ?_
          all_goals refine wAdd ?_
          all_goals refine wMove ?_
          all_goals refine wConv ?_
          all_goals refine wRem ?_
          all_goals refine wConv ?_
          all_goals refine wAdd ?_
          all_goals refine wAssign ?_
          all_goals refine wAssign ?_
          all_goals refine ow_nil ?_)
      | (
          refine cw_region (id := 5) rfl ?_
          all_goals refine wAssign ?_
          all_goals refine ow_nil ?_)
      | (
          refine cw_region (id := 6) rfl ?_
          all_goals refine wMove ?_
          all_goals refine wMove ?_
          all_goals refine wLss ?_
          all_goals refine ow_nil ?_)
      | (
          refine cw_region (id := 9) rfl ?_
          all_goals refine wAssign ?_
          all_goals refine ow_nil ?_)
      | (
          refine cw_region (id := 7) rfl ?_
          all_goals refine wMove ?_
          all_goals refine wAdd ?_
          all_goals refine wAssign ?_
          all_goals refine ow_nil ?_)
      | (
          refine cw_region (id := 10) rfl ?_
          all_goals refine wMove ?_
          all_goals refine wMove ?_
          all_goals refine wSub ?_
          all_goals refine wMove ?_
          all_goals refine wSub ?_
          all_goals (refine ow_cons ?_; refine st_rd (rd_build (vs := [.int _ _, .int _ _]) rfl) ?_)
          all_goals (refine ow_cons ?_; refine st_buildSlice (vs := [.int _ _, .int _ _]) rfl rfl rfl rfl (fun bN => ?_))
          all_goals refine wMove ?_
          all_goals refine wAdd ?_
          all_goals (refine ow_cons ?_; (refine OpK.heap ?_ (fun w h => tr_blk_ro (cs := [i6 ((m : Int) + 1 - 1), i6 ((m : Int) + 1 - 1)]) tSp [⟨m, m⟩] (by rw [hmm]; rfl) selA h); refine st_call (av := [_, _, _, _]) rfl (ackedAs b bN a cap _ _ [⟨m, m⟩] _ _ _ ok0 (by simp) he) (.cons selA (.cons selA (.cons selA (.nil _)))) ?_; rintro v L' ⟨a1, c1, a2, c2, rfl, rfl⟩))
          all_goals refine wMove ?_
          all_goals refine wExtract ?_
          all_goals refine wExtract ?_
          all_goals refine wExtract ?_
          all_goals refine wAssign ?_
          all_goals refine wAssign ?_
          all_goals refine wAssign ?_
          all_goals refine ow_nil ?_)
      | (
          refine cw_region (id := 11) rfl ?_
          all_goals refine wMove ?_
          all_goals refine wNeq ?_
          all_goals refine wMove ?_
          all_goals (refine ow_cons ?_; first | refine gNo ?_ | refine gUn ?_ | (refine gYes ?_; refine kMove ?_) | (refine gTf ?_; refine kMove ?_) | refine gFf ?_ | (refine gSf (fun hc => ?_) (fun hc => ?_); rotate_left; (focus (refine kMove ?_)); rotate_right) | (refine gBf (fun hc => ?_) (fun hc => ?_); rotate_left; (focus (refine kMove ?_)); rotate_right))
          all_goals (refine ow_cons ?_; first | refine gNo ?_ | refine gUn ?_ | (refine gYes ?_; refine kLen ?_) | (refine gTf ?_; refine kLen ?_) | refine gFf ?_ | (refine gSf (fun hc => ?_) (fun hc => ?_); rotate_left; (focus (refine kLen ?_)); rotate_right) | (refine gBf (fun hc => ?_) (fun hc => ?_); rotate_left; (focus (refine kLen ?_)); rotate_right))
          all_goals (refine ow_cons ?_; first | refine gNo ?_ | refine gUn ?_ | (refine gYes ?_; refine kNeq ?_) | (refine gTf ?_; refine kNeq ?_) | refine gFf ?_ | (refine gSf (fun hc => ?_) (fun hc => ?_); rotate_left; (focus (refine kNeq ?_)); rotate_right) | (refine gBf (fun hc => ?_) (fun hc => ?_); rotate_left; (focus (refine kNeq ?_)); rotate_right))
          all_goals refine wPick ?_
          all_goals refine wMove ?_
          all_goals (refine ow_cons ?_; first | refine gNo ?_ | refine gUn ?_ | (refine gYes ?_; refine kMove ?_) | (refine gTf ?_; refine kMove ?_) | refine gFf ?_ | (refine gSf (fun hc => ?_) (fun hc => ?_); rotate_left; (focus (refine kMove ?_)); rotate_right) | (refine gBf (fun hc => ?_) (fun hc => ?_); rotate_left; (focus (refine kMove ?_)); rotate_right))
          all_goals (refine ow_cons ?_; first | refine gNo ?_ | refine gUn ?_ | (refine gYes ?_; first | refine kIndex ?_ | (refine st_idxRi 0 rfl rfl rfl selA (by simp) (by simp) (fun g hg => ?_); subst hg) | (refine kIdxR (fun g hg => ?_); subst hg) | (refine kIdxO (fun gb go hg => ?_); subst hg)) | (refine gTf ?_; first | refine kIndex ?_ | (refine st_idxRi 0 rfl rfl rfl selA (by simp) (by simp) (fun g hg => ?_); subst hg) | (refine kIdxR (fun g hg => ?_); subst hg) | (refine kIdxO (fun gb go hg => ?_); subst hg)) | refine gFf ?_ | (refine gSf (fun hc => ?_) (fun hc => ?_); rotate_left; (focus (first | refine kIndex ?_ | (refine st_idxRi 0 rfl rfl rfl selA (by simp) (by simp) (fun g hg => ?_); subst hg) | (refine kIdxR (fun g hg => ?_); subst hg) | (refine kIdxO (fun gb go hg => ?_); subst hg))); rotate_right) | (refine gBf (fun hc => ?_) (fun hc => ?_); rotate_left; (focus (first | refine kIndex ?_ | (refine st_idxRi 0 rfl rfl rfl selA (by simp) (by simp) (fun g hg => ?_); subst hg) | (refine kIdxR (fun g hg => ?_); subst hg) | (refine kIdxO (fun gb go hg => ?_); subst hg))); rotate_right))
          all_goals (refine ow_cons ?_; first | refine gNo ?_ | refine gUn ?_ | (refine gYes ?_; refine kLoad ?_) | (refine gTf ?_; refine kLoad ?_) | refine gFf ?_ | (refine gSf (fun hc => ?_) (fun hc => ?_); rotate_left; (focus (refine kLoad ?_)); rotate_right) | (refine gBf (fun hc => ?_) (fun hc => ?_); rotate_left; (focus (refine kLoad ?_)); rotate_right))
          all_goals (refine ow_cons ?_; first | refine gNo ?_ | refine gUn ?_ | (refine gYes ?_; refine kMove ?_) | (refine gTf ?_; refine kMove ?_) | refine gFf ?_ | (refine gSf (fun hc => ?_) (fun hc => ?_); rotate_left; (focus (refine kMove ?_)); rotate_right) | (refine gBf (fun hc => ?_) (fun hc => ?_); rotate_left; (focus (refine kMove ?_)); rotate_right))
          all_goals (refine ow_cons ?_; first | refine gNo ?_ | refine gUn ?_ | (refine gYes ?_; refine kSub ?_) | (refine gTf ?_; refine kSub ?_) | refine gFf ?_ | (refine gSf (fun hc => ?_) (fun hc => ?_); rotate_left; (focus (refine kSub ?_)); rotate_right) | (refine gBf (fun hc => ?_) (fun hc => ?_); rotate_left; (focus (refine kSub ?_)); rotate_right))
          all_goals (refine ow_cons ?_; first | refine gNo ?_ | refine gUn ?_ | (refine gYes ?_; refine kNeq ?_) | (refine gTf ?_; refine kNeq ?_) | refine gFf ?_ | (refine gSf (fun hc => ?_) (fun hc => ?_); rotate_left; (focus (refine kNeq ?_)); rotate_right) | (refine gBf (fun hc => ?_) (fun hc => ?_); rotate_left; (focus (refine kNeq ?_)); rotate_right))
          all_goals refine wPick ?_
          all_goals refine ow_nil ?_)
      | (
          refine cw_region (id := 12) rfl ?_
          all_goals refine wAssign ?_
          all_goals refine ow_nil ?_)
      | (
          refine cw_region (id := 13) rfl ?_
          all_goals refine wMove ?_
          all_goals refine wSub ?_
          all_goals refine wMax ?_
          all_goals refine wAssign ?_
          all_goals refine ow_nil ?_)
      | (
          refine cw_region (id := 14) rfl ?_
          all_goals refine wMove ?_
          all_goals refine wMul ?_
          all_goals refine wQuo ?_
          all_goals refine wMove ?_
          all_goals refine wLeq ?_
          all_goals refine wMove ?_
          all_goals (refine ow_cons ?_; first | refine gNo ?_ | refine gUn ?_ | (refine gYes ?_; refine kMove ?_) | (refine gTf ?_; refine kMove ?_) | refine gFf ?_ | (refine gSf (fun hc => ?_) (fun hc => ?_); rotate_left; (focus (refine kMove ?_)); rotate_right) | (refine gBf (fun hc => ?_) (fun hc => ?_); rotate_left; (focus (refine kMove ?_)); rotate_right))
          all_goals (refine ow_cons ?_; first | refine gNo ?_ | refine gUn ?_ | (refine gYes ?_; refine kLss ?_) | (refine gTf ?_; refine kLss ?_) | refine gFf ?_ | (refine gSf (fun hc => ?_) (fun hc => ?_); rotate_left; (focus (refine kLss ?_)); rotate_right) | (refine gBf (fun hc => ?_) (fun hc => ?_); rotate_left; (focus (refine kLss ?_)); rotate_right))
          all_goals refine wPick ?_
          all_goals refine ow_nil ?_)
      | (
          refine cw_region (id := 15) rfl ?_
          all_goals refine wMove ?_
          all_goals refine wLen ?_
          all_goals refine wMove ?_
          all_goals refine wGeq ?_
          all_goals refine wAssign ?_
          all_goals refine ow_nil ?_)
      | (
          refine cw_region (id := 16) rfl ?_
          all_goals refine wMove ?_
          all_goals refine wLen ?_
          all_goals refine wMove ?_
          all_goals refine wNeq ?_
          all_goals refine ow_nil ?_)
      | (
          refine cw_region (id := 17) rfl ?_
          all_goals refine wAssign ?_
          all_goals refine ow_nil ?_)
      | (
          refine cw_region (id := 18) rfl ?_
          all_goals refine wAssign ?_
          all_goals refine ow_nil ?_)
      | (
          refine cw_region (id := 19) rfl ?_
          all_goals refine wMove ?_
          all_goals refine wMove ?_
          all_goals refine wLen ?_
          all_goals refine wLss ?_
          all_goals refine ow_nil ?_)
      | (
          refine cw_region (id := 21) rfl ?_
          all_goals refine wMove ?_
          all_goals refine wMove ?_
          all_goals (refine ow_cons ?_; first | refine kIndex ?_ | (refine st_idxRi 0 rfl rfl rfl selA (by simp) (by simp) (fun g hg => ?_); subst hg) | (refine kIdxR (fun g hg => ?_); subst hg) | (refine kIdxO (fun gb go hg => ?_); subst hg))
          all_goals refine wLoad ?_
          all_goals refine wMove ?_
          all_goals refine wNeq ?_
          all_goals refine ow_nil ?_)
      | (
          refine cw_region (id := 22) rfl ?_
          all_goals refine wAssign ?_
          all_goals refine ow_nil ?_)
      | (
          refine cw_region (id := 20) rfl ?_
          all_goals refine wMove ?_
          all_goals refine wAdd ?_
          all_goals refine wAssign ?_
          all_goals refine ow_nil ?_)
      | (
          refine cw_region (id := 23) rfl ?_
          all_goals refine wMove ?_
          all_goals refine wEql ?_
          all_goals refine ow_nil ?_)
      | (
          refine cw_region (id := 27) rfl ?_
          all_goals refine wMove ?_
          all_goals refine wSub ?_
          all_goals refine wMove ?_
          all_goals refine wSub ?_
          all_goals refine wAssign ?_
          all_goals refine ow_nil ?_)
      | refine cw_seq ?_
      | refine tq_n ?_
      | (refine isCW ?_; first | refine cw_region rfl ?_ | refine cw_skip ?_ | refine cw_ret ?_ | refine cw_exit ?_ | refine cw_block ?_ | refine cTrue ?_ | refine cFalse ?_ | refine cT ?_ | refine cF ?_ | refine cS (fun hc => ?_) (fun hc => ?_) | refine cB (fun hc => ?_) (fun hc => ?_))
      | refine tq_ret ?_ | refine tq_exit ?_ | refine bq_n ?_ | refine bq_ret ?_ | refine bq_same ?_ | refine bq_ne rfl ?_
      | refine ow_cons ?_ | refine ow_nil ?_
      | (refine isOpK ?_; first
        | (refine isG ?_; first | refine opk_yes rfl rfl ?_ | refine opk_no rfl rfl ?_ | refine opk_no_undef rfl rfl ?_ | refine opk_g_t rfl rfl (by omega) ?_ | refine opk_g_f rfl rfl (by omega) ?_ | refine opk_g_s rfl rfl (fun hc => ?_) (fun hc => ?_) | refine opk_g_b rfl rfl (fun hc => ?_) (fun hc => ?_))
        | refine kRd ?_
        | refine kStore ?_
        | refine kStoreA ?_
        | refine kStoreR ?_
        | (refine st_idxRi 0 rfl rfl rfl selA (by simp) (by simp) (fun g hg => ?_); subst hg)
        | (refine kIdxR (fun g hg => ?_); subst hg)
        | (refine kIdxO (fun gb go hg => ?_); subst hg)
        | refine st_alloc (fun bN => ?_)
        | refine kBox (fun bN => ?_)
        | refine kBoxA (fun bN => ?_)
        | (refine st_buildSlice rfl rfl rfl rfl (fun bN => ?_))
        | (refine st_clearR rfl selA rfl (by omega) rfl rfl rfl ?_)
        | (refine st_clearR rfl selA (by omega) (by omega) rfl rfl rfl ?_)
        | (refine OpK.heap ?_ (fun w h => tr_blk_ro (cs := [i6 ((m : Int) + 1 - 1), i6 ((m : Int) + 1 - 1)]) tSp [⟨m, m⟩] (by rw [hmm]; rfl) selA h); refine st_call (av := [_, _, _, _]) rfl (ackedAs b bN a cap _ _ [⟨m, m⟩] _ _ _ ok0 (by simp) he) (.cons selA (.cons selA (.cons selA (.nil _)))) ?_; rintro v L' ⟨a1, c1, a2, c2, rfl, rfl⟩))
      | refine hw_cons ?_ | refine hw_nil ?_
      | (refine isOpS ?_; first
        | (refine os_isG ?_; first | refine os_yes rfl rfl ?_ | refine os_no rfl rfl ?_ | refine os_no_undef rfl rfl ?_ | refine os_g_t rfl rfl (by omega) ?_ | refine os_g_f rfl rfl (by omega) ?_ | refine os_g_s rfl rfl (fun hc => ?_) (fun hc => ?_) | refine os_g_b rfl rfl (fun hc => ?_) (fun hc => ?_))
        | refine sRd ?_))
    refine cw_rounds (S := fun j : Nat => [(0, i6 ((m : Int) + 1)), (1, i6 w), (4, .bool false), (5, ptr b), (8, .slice (oad a2) l.length c2), (10, i6 (max ((m : Int) + 1 - 3) 0)), (11, .int .i64 (j : Nat))]) (H := fun _ => stR b s1 a cap ++ [row a2 3 c2 (tInt .i64) l])
      (V := fun j => j ≤ m - 2) (μ := fun j => m - 2 - j) 0 ⟨rfl, rfl, rfl, rfl, rfl, rfl, rfl, trivial⟩ (by omega) (fun _ h => pick3 h selA selA selA) ?_
    rintro j e' hj
    dsimp only [upds]
    unfold stR
    rcases Nat.lt_or_ge j (m - 2) with hlt | hge
    · have hjg := hget j hlt
      repeat' (first
        | (
            refine cw_region (id := 0) rfl ?_
            all_goals refine wAssign ?_
            all_goals refine ow_nil ?_)
        | (
            refine cw_region (id := 2) rfl ?_
            all_goals refine wAssign ?_
            all_goals refine ow_nil ?_)
        | (
            refine cw_region (id := 3) rfl ?_
            all_goals refine wMove ?_
            all_goals refine wConv ?_
            all_goals refine wRem ?_
            all_goals refine wConv ?_
            all_goals refine wAdd ?_
            all_goals refine wMove ?_
            all_goals refine wConv ?_
            all_goals refine wRem ?_
            all_goals refine wConv ?_
            all_goals refine wAdd ?_
            all_goals refine wAssign ?_
            all_goals refine wAssign ?_
            all_goals refine ow_nil ?_)
        | (
            refine cw_region (id := 5) rfl ?_
            all_goals refine wAssign ?_
            all_goals refine ow_nil ?_)
        | (
            refine cw_region (id := 6) rfl ?_
            all_goals refine wMove ?_
            all_goals refine wMove ?_
            all_goals refine wLss ?_
            all_goals refine ow_nil ?_)
        | (
            refine cw_region (id := 9) rfl ?_
            all_goals refine wAssign ?_
            all_goals refine ow_nil ?_)
        | (
            refine cw_region (id := 7) rfl ?_
            all_goals refine wMove ?_
            all_goals refine wAdd ?_
            all_goals refine wAssign ?_
            all_goals refine ow_nil ?_)
        | (
            refine cw_region (id := 11) rfl ?_
            all_goals refine wMove ?_
            all_goals refine wNeq ?_
            all_goals refine wMove ?_
            all_goals (refine ow_cons ?_; first | refine gNo ?_ | refine gUn ?_ | (refine gYes ?_; refine kMove ?_) | (refine gTf ?_; refine kMove ?_) | refine gFf ?_ | (refine gSf (fun hc => ?_) (fun hc => ?_); rotate_left; (focus (refine kMove ?_)); rotate_right) | (refine gBf (fun hc => ?_) (fun hc => ?_); rotate_left; (focus (refine kMove ?_)); rotate_right))
            all_goals (refine ow_cons ?_; first | refine gNo ?_ | refine gUn ?_ | (refine gYes ?_; refine kLen ?_) | (refine gTf ?_; refine kLen ?_) | refine gFf ?_ | (refine gSf (fun hc => ?_) (fun hc => ?_); rotate_left; (focus (refine kLen ?_)); rotate_right) | (refine gBf (fun hc => ?_) (fun hc => ?_); rotate_left; (focus (refine kLen ?_)); rotate_right))
            all_goals (refine ow_cons ?_; first | refine gNo ?_ | refine gUn ?_ | (refine gYes ?_; refine kNeq ?_) | (refine gTf ?_; refine kNeq ?_) | refine gFf ?_ | (refine gSf (fun hc => ?_) (fun hc => ?_); rotate_left; (focus (refine kNeq ?_)); rotate_right) | (refine gBf (fun hc => ?_) (fun hc => ?_); rotate_left; (focus (refine kNeq ?_)); rotate_right))
            all_goals refine wPick ?_
            all_goals refine wMove ?_
            all_goals (refine ow_cons ?_; first | refine gNo ?_ | refine gUn ?_ | (refine gYes ?_; refine kMove ?_) | (refine gTf ?_; refine kMove ?_) | refine gFf ?_ | (refine gSf (fun hc => ?_) (fun hc => ?_); rotate_left; (focus (refine kMove ?_)); rotate_right) | (refine gBf (fun hc => ?_) (fun hc => ?_); rotate_left; (focus (refine kMove ?_)); rotate_right))
            all_goals (refine ow_cons ?_; first | refine gNo ?_ | refine gUn ?_ | (refine gYes ?_; first | refine kIndex ?_ | (refine kIdxR (fun g hg => ?_); subst hg) | (refine kIdxO (fun gb go hg => ?_); subst hg)) | (refine gTf ?_; first | refine kIndex ?_ | (refine kIdxR (fun g hg => ?_); subst hg) | (refine kIdxO (fun gb go hg => ?_); subst hg)) | refine gFf ?_ | (refine gSf (fun hc => ?_) (fun hc => ?_); rotate_left; (focus (first | refine kIndex ?_ | (refine kIdxR (fun g hg => ?_); subst hg) | (refine kIdxO (fun gb go hg => ?_); subst hg))); rotate_right) | (refine gBf (fun hc => ?_) (fun hc => ?_); rotate_left; (focus (first | refine kIndex ?_ | (refine kIdxR (fun g hg => ?_); subst hg) | (refine kIdxO (fun gb go hg => ?_); subst hg))); rotate_right))
            all_goals (refine ow_cons ?_; first | refine gNo ?_ | refine gUn ?_ | (refine gYes ?_; refine kLoad ?_) | (refine gTf ?_; refine kLoad ?_) | refine gFf ?_ | (refine gSf (fun hc => ?_) (fun hc => ?_); rotate_left; (focus (refine kLoad ?_)); rotate_right) | (refine gBf (fun hc => ?_) (fun hc => ?_); rotate_left; (focus (refine kLoad ?_)); rotate_right))
            all_goals (refine ow_cons ?_; first | refine gNo ?_ | refine gUn ?_ | (refine gYes ?_; refine kMove ?_) | (refine gTf ?_; refine kMove ?_) | refine gFf ?_ | (refine gSf (fun hc => ?_) (fun hc => ?_); rotate_left; (focus (refine kMove ?_)); rotate_right) | (refine gBf (fun hc => ?_) (fun hc => ?_); rotate_left; (focus (refine kMove ?_)); rotate_right))
            all_goals (refine ow_cons ?_; first | refine gNo ?_ | refine gUn ?_ | (refine gYes ?_; refine kSub ?_) | (refine gTf ?_; refine kSub ?_) | refine gFf ?_ | (refine gSf (fun hc => ?_) (fun hc => ?_); rotate_left; (focus (refine kSub ?_)); rotate_right) | (refine gBf (fun hc => ?_) (fun hc => ?_); rotate_left; (focus (refine kSub ?_)); rotate_right))
            all_goals (refine ow_cons ?_; first | refine gNo ?_ | refine gUn ?_ | (refine gYes ?_; refine kNeq ?_) | (refine gTf ?_; refine kNeq ?_) | refine gFf ?_ | (refine gSf (fun hc => ?_) (fun hc => ?_); rotate_left; (focus (refine kNeq ?_)); rotate_right) | (refine gBf (fun hc => ?_) (fun hc => ?_); rotate_left; (focus (refine kNeq ?_)); rotate_right))
            all_goals refine wPick ?_
            all_goals refine ow_nil ?_)
        | (
            refine cw_region (id := 12) rfl ?_
            all_goals refine wAssign ?_
            all_goals refine ow_nil ?_)
        | (
            refine cw_region (id := 13) rfl ?_
            all_goals refine wMove ?_
            all_goals refine wSub ?_
            all_goals refine wMax ?_
            all_goals refine wAssign ?_
            all_goals refine ow_nil ?_)
        | (
            refine cw_region (id := 14) rfl ?_
            all_goals refine wMove ?_
            all_goals refine wMul ?_
            all_goals refine wQuo ?_
            all_goals refine wMove ?_
            all_goals refine wLeq ?_
            all_goals refine wMove ?_
            all_goals (refine ow_cons ?_; first | refine gNo ?_ | refine gUn ?_ | (refine gYes ?_; refine kMove ?_) | (refine gTf ?_; refine kMove ?_) | refine gFf ?_ | (refine gSf (fun hc => ?_) (fun hc => ?_); rotate_left; (focus (refine kMove ?_)); rotate_right) | (refine gBf (fun hc => ?_) (fun hc => ?_); rotate_left; (focus (refine kMove ?_)); rotate_right))
            all_goals (refine ow_cons ?_; first | refine gNo ?_ | refine gUn ?_ | (refine gYes ?_; refine kLss ?_) | (refine gTf ?_; refine kLss ?_) | refine gFf ?_ | (refine gSf (fun hc => ?_) (fun hc => ?_); rotate_left; (focus (refine kLss ?_)); rotate_right) | (refine gBf (fun hc => ?_) (fun hc => ?_); rotate_left; (focus (refine kLss ?_)); rotate_right))
            all_goals refine wPick ?_
            all_goals refine ow_nil ?_)
        | (
            refine cw_region (id := 15) rfl ?_
            all_goals refine wMove ?_
            all_goals refine wLen ?_
            all_goals refine wMove ?_
            all_goals refine wGeq ?_
            all_goals refine wAssign ?_
            all_goals refine ow_nil ?_)
        | (
            refine cw_region (id := 16) rfl ?_
            all_goals refine wMove ?_
            all_goals refine wLen ?_
            all_goals refine wMove ?_
            all_goals refine wNeq ?_
            all_goals refine ow_nil ?_)
        | (
            refine cw_region (id := 17) rfl ?_
            all_goals refine wAssign ?_
            all_goals refine ow_nil ?_)
        | (
            refine cw_region (id := 18) rfl ?_
            all_goals refine wAssign ?_
            all_goals refine ow_nil ?_)
        | (
            refine cw_region (id := 19) rfl ?_
            all_goals refine wMove ?_
            all_goals refine wMove ?_
            all_goals refine wLen ?_
            all_goals refine wLss ?_
            all_goals refine ow_nil ?_)
        | (
            refine cw_region (id := 21) rfl ?_
            all_goals refine wMove ?_
            all_goals refine wMove ?_
            all_goals (refine ow_cons ?_; first | refine kIndex ?_ | (refine kIdxR (fun g hg => ?_); subst hg) | (refine kIdxO (fun gb go hg => ?_); subst hg))
            all_goals refine wLoad ?_
            all_goals refine wMove ?_
            all_goals refine wNeq ?_
            all_goals refine ow_nil ?_)
        | (
            refine cw_region (id := 22) rfl ?_
            all_goals refine wAssign ?_
            all_goals refine ow_nil ?_)
        | (
            refine cw_region (id := 20) rfl ?_
            all_goals refine wMove ?_
            all_goals refine wAdd ?_
            all_goals refine wAssign ?_
            all_goals refine ow_nil ?_)
        | (
            refine cw_region (id := 23) rfl ?_
            all_goals refine wMove ?_
            all_goals refine wEql ?_
            all_goals refine ow_nil ?_)
        | (
            refine cw_region (id := 27) rfl ?_
            all_goals refine wMove ?_
            all_goals refine wSub ?_
            all_goals refine wMove ?_
            all_goals refine wSub ?_
            all_goals refine wAssign ?_
            all_goals refine ow_nil ?_)
        | refine cw_seq ?_
        | refine tq_n ?_
        | (refine isCW ?_; first | refine cw_region rfl ?_ | refine cw_skip ?_ | refine cw_ret ?_ | refine cw_exit ?_ | refine cw_block ?_ | refine cTrue ?_ | refine cFalse ?_ | refine cT ?_ | refine cF ?_ | refine cS (fun hc => ?_) (fun hc => ?_) | refine cB (fun hc => ?_) (fun hc => ?_))
        | refine tq_ret ?_ | refine tq_exit ?_ | refine bq_n ?_ | refine bq_ret ?_ | refine bq_same ?_ | refine bq_ne rfl ?_
        | refine ow_cons ?_ | refine ow_nil ?_
        | (refine isOpK ?_; first
          | (refine isG ?_; first | refine opk_yes rfl rfl ?_ | refine opk_no rfl rfl ?_ | refine opk_no_undef rfl rfl ?_ | refine opk_g_t rfl rfl (by omega) ?_ | refine opk_g_f rfl rfl (by omega) ?_ | refine opk_g_s rfl rfl (fun hc => ?_) (fun hc => ?_) | refine opk_g_b rfl rfl (fun hc => ?_) (fun hc => ?_))
          | refine kRd ?_
          | refine kStore ?_
          | refine kStoreA ?_
          | refine kStoreR ?_
          | (refine kIdxR (fun g hg => ?_); subst hg)
          | (refine kIdxO (fun gb go hg => ?_); subst hg)
          | refine st_alloc (fun bN => ?_)
          | refine kBox (fun bN => ?_)
          | refine kBoxA (fun bN => ?_)
          | (refine st_buildSlice rfl rfl rfl rfl (fun bN => ?_))
          | (refine st_clearR rfl selA rfl (by omega) rfl rfl rfl ?_)
          | (refine st_clearR rfl selA (by omega) (by omega) rfl rfl rfl ?_))
        | refine hw_cons ?_ | refine hw_nil ?_
        | (refine isOpS ?_; first
          | (refine os_isG ?_; first | refine os_yes rfl rfl ?_ | refine os_no rfl rfl ?_ | refine os_no_undef rfl rfl ?_ | refine os_g_t rfl rfl (by omega) ?_ | refine os_g_f rfl rfl (by omega) ?_ | refine os_g_s rfl rfl (fun hc => ?_) (fun hc => ?_) | refine os_g_b rfl rfl (fun hc => ?_) (fun hc => ?_))
          | refine sRd ?_))
      exact lp_end (j + 1) ⟨rfl, rfl, rfl, rfl, rfl, rfl, rfl, trivial⟩ (by omega) (by omega) (fun _ h => pick3 h selA selA selA)
    by_cases h0 : m = 0
    · have hfl := hz h0
      repeat' (first
        | (
            refine cw_region (id := 0) rfl ?_
            all_goals refine wAssign ?_
            all_goals refine ow_nil ?_)
        | (
            refine cw_region (id := 2) rfl ?_
            all_goals refine wAssign ?_
            all_goals refine ow_nil ?_)
        | (
            refine cw_region (id := 3) rfl ?_
            all_goals refine wMove ?_
            all_goals refine wConv ?_
            all_goals refine wRem ?_
            all_goals refine wConv ?_
            all_goals refine wAdd ?_
            all_goals refine wMove ?_
            all_goals refine wConv ?_
            all_goals refine wRem ?_
            all_goals refine wConv ?_
            all_goals refine wAdd ?_
            all_goals refine wAssign ?_
            all_goals refine wAssign ?_
            all_goals refine ow_nil ?_)
        | (
            refine cw_region (id := 5) rfl ?_
            all_goals refine wAssign ?_
            all_goals refine ow_nil ?_)
        | (
            refine cw_region (id := 6) rfl ?_
            all_goals refine wMove ?_
            all_goals refine wMove ?_
            all_goals refine wLss ?_
            all_goals refine ow_nil ?_)
        | (
            refine cw_region (id := 9) rfl ?_
            all_goals refine wAssign ?_
            all_goals refine ow_nil ?_)
        | (
            refine cw_region (id := 7) rfl ?_
            all_goals refine wMove ?_
            all_goals refine wAdd ?_
            all_goals refine wAssign ?_
            all_goals refine ow_nil ?_)
        | (
            refine cw_region (id := 11) rfl ?_
            all_goals refine wMove ?_
            all_goals refine wNeq ?_
            all_goals refine wMove ?_
            all_goals (refine ow_cons ?_; first | refine gNo ?_ | refine gUn ?_ | (refine gYes ?_; refine kMove ?_) | (refine gTf ?_; refine kMove ?_) | refine gFf ?_ | (refine gSf (fun hc => ?_) (fun hc => ?_); rotate_left; (focus (refine kMove ?_)); rotate_right) | (refine gBf (fun hc => ?_) (fun hc => ?_); rotate_left; (focus (refine kMove ?_)); rotate_right))
            all_goals (refine ow_cons ?_; first | refine gNo ?_ | refine gUn ?_ | (refine gYes ?_; refine kLen ?_) | (refine gTf ?_; refine kLen ?_) | refine gFf ?_ | (refine gSf (fun hc => ?_) (fun hc => ?_); rotate_left; (focus (refine kLen ?_)); rotate_right) | (refine gBf (fun hc => ?_) (fun hc => ?_); rotate_left; (focus (refine kLen ?_)); rotate_right))
            all_goals (refine ow_cons ?_; first | refine gNo ?_ | refine gUn ?_ | (refine gYes ?_; refine kNeq ?_) | (refine gTf ?_; refine kNeq ?_) | refine gFf ?_ | (refine gSf (fun hc => ?_) (fun hc => ?_); rotate_left; (focus (refine kNeq ?_)); rotate_right) | (refine gBf (fun hc => ?_) (fun hc => ?_); rotate_left; (focus (refine kNeq ?_)); rotate_right))
            all_goals refine wPick ?_
            all_goals refine wMove ?_
            all_goals (refine ow_cons ?_; first | refine gNo ?_ | refine gUn ?_ | (refine gYes ?_; refine kMove ?_) | (refine gTf ?_; refine kMove ?_) | refine gFf ?_ | (refine gSf (fun hc => ?_) (fun hc => ?_); rotate_left; (focus (refine kMove ?_)); rotate_right) | (refine gBf (fun hc => ?_) (fun hc => ?_); rotate_left; (focus (refine kMove ?_)); rotate_right))
            all_goals (refine ow_cons ?_; first | refine gNo ?_ | refine gUn ?_ | (refine gYes ?_; first | refine kIndex ?_ | (refine kIdxR (fun g hg => ?_); subst hg) | (refine kIdxO (fun gb go hg => ?_); subst hg)) | (refine gTf ?_; first | refine kIndex ?_ | (refine kIdxR (fun g hg => ?_); subst hg) | (refine kIdxO (fun gb go hg => ?_); subst hg)) | refine gFf ?_ | (refine gSf (fun hc => ?_) (fun hc => ?_); rotate_left; (focus (first | refine kIndex ?_ | (refine kIdxR (fun g hg => ?_); subst hg) | (refine kIdxO (fun gb go hg => ?_); subst hg))); rotate_right) | (refine gBf (fun hc => ?_) (fun hc => ?_); rotate_left; (focus (first | refine kIndex ?_ | (refine kIdxR (fun g hg => ?_); subst hg) | (refine kIdxO (fun gb go hg => ?_); subst hg))); rotate_right))
            all_goals (refine ow_cons ?_; first | refine gNo ?_ | refine gUn ?_ | (refine gYes ?_; refine kLoad ?_) | (refine gTf ?_; refine kLoad ?_) | refine gFf ?_ | (refine gSf (fun hc => ?_) (fun hc => ?_); rotate_left; (focus (refine kLoad ?_)); rotate_right) | (refine gBf (fun hc => ?_) (fun hc => ?_); rotate_left; (focus (refine kLoad ?_)); rotate_right))
            all_goals (refine ow_cons ?_; first | refine gNo ?_ | refine gUn ?_ | (refine gYes ?_; refine kMove ?_) | (refine gTf ?_; refine kMove ?_) | refine gFf ?_ | (refine gSf (fun hc => ?_) (fun hc => ?_); rotate_left; (focus (refine kMove ?_)); rotate_right) | (refine gBf (fun hc => ?_) (fun hc => ?_); rotate_left; (focus (refine kMove ?_)); rotate_right))
            all_goals (refine ow_cons ?_; first | refine gNo ?_ | refine gUn ?_ | (refine gYes ?_; refine kSub ?_) | (refine gTf ?_; refine kSub ?_) | refine gFf ?_ | (refine gSf (fun hc => ?_) (fun hc => ?_); rotate_left; (focus (refine kSub ?_)); rotate_right) | (refine gBf (fun hc => ?_) (fun hc => ?_); rotate_left; (focus (refine kSub ?_)); rotate_right))
            all_goals (refine ow_cons ?_; first | refine gNo ?_ | refine gUn ?_ | (refine gYes ?_; refine kNeq ?_) | (refine gTf ?_; refine kNeq ?_) | refine gFf ?_ | (refine gSf (fun hc => ?_) (fun hc => ?_); rotate_left; (focus (refine kNeq ?_)); rotate_right) | (refine gBf (fun hc => ?_) (fun hc => ?_); rotate_left; (focus (refine kNeq ?_)); rotate_right))
            all_goals refine wPick ?_
            all_goals refine ow_nil ?_)
        | (
            refine cw_region (id := 12) rfl ?_
            all_goals refine wAssign ?_
            all_goals refine ow_nil ?_)
        | (
            refine cw_region (id := 13) rfl ?_
            all_goals refine wMove ?_
            all_goals refine wSub ?_
            all_goals refine wMax ?_
            all_goals refine wAssign ?_
            all_goals refine ow_nil ?_)
        | (
            refine cw_region (id := 14) rfl ?_
            all_goals refine wMove ?_
            all_goals refine wMul ?_
            all_goals refine wQuo ?_
            all_goals refine wMove ?_
            all_goals refine wLeq ?_
            all_goals refine wMove ?_
            all_goals (refine ow_cons ?_; first | refine gNo ?_ | refine gUn ?_ | (refine gYes ?_; refine kMove ?_) | (refine gTf ?_; refine kMove ?_) | refine gFf ?_ | (refine gSf (fun hc => ?_) (fun hc => ?_); rotate_left; (focus (refine kMove ?_)); rotate_right) | (refine gBf (fun hc => ?_) (fun hc => ?_); rotate_left; (focus (refine kMove ?_)); rotate_right))
            all_goals (refine ow_cons ?_; first | refine gNo ?_ | refine gUn ?_ | (refine gYes ?_; refine kLss ?_) | (refine gTf ?_; refine kLss ?_) | refine gFf ?_ | (refine gSf (fun hc => ?_) (fun hc => ?_); rotate_left; (focus (refine kLss ?_)); rotate_right) | (refine gBf (fun hc => ?_) (fun hc => ?_); rotate_left; (focus (refine kLss ?_)); rotate_right))
            all_goals refine wPick ?_
            all_goals refine ow_nil ?_)
        | (
            refine cw_region (id := 15) rfl ?_
            all_goals refine wMove ?_
            all_goals refine wLen ?_
            all_goals refine wMove ?_
            all_goals refine wGeq ?_
            all_goals refine wAssign ?_
            all_goals refine ow_nil ?_)
        | (
            refine cw_region (id := 16) rfl ?_
            all_goals refine wMove ?_
            all_goals refine wLen ?_
            all_goals refine wMove ?_
            all_goals refine wNeq ?_
            all_goals refine ow_nil ?_)
        | (
            refine cw_region (id := 17) rfl ?_
            all_goals refine wAssign ?_
            all_goals refine ow_nil ?_)
        | (
            refine cw_region (id := 18) rfl ?_
            all_goals refine wAssign ?_
            all_goals refine ow_nil ?_)
        | (
            refine cw_region (id := 19) rfl ?_
            all_goals refine wMove ?_
            all_goals refine wMove ?_
            all_goals refine wLen ?_
            all_goals refine wLss ?_
            all_goals refine ow_nil ?_)
        | (
            refine cw_region (id := 21) rfl ?_
            all_goals refine wMove ?_
            all_goals refine wMove ?_
            all_goals (refine ow_cons ?_; first | refine kIndex ?_ | (refine kIdxR (fun g hg => ?_); subst hg) | (refine kIdxO (fun gb go hg => ?_); subst hg))
            all_goals refine wLoad ?_
            all_goals refine wMove ?_
            all_goals refine wNeq ?_
            all_goals refine ow_nil ?_)
        | (
            refine cw_region (id := 22) rfl ?_
            all_goals refine wAssign ?_
            all_goals refine ow_nil ?_)
        | (
            refine cw_region (id := 20) rfl ?_
            all_goals refine wMove ?_
            all_goals refine wAdd ?_
            all_goals refine wAssign ?_
            all_goals refine ow_nil ?_)
        | (
            refine cw_region (id := 23) rfl ?_
            all_goals refine wMove ?_
            all_goals refine wEql ?_
            all_goals refine ow_nil ?_)
        | (
            refine cw_region (id := 24) rfl ?_
            all_goals refine wMove ?_
            all_goals (refine ow_cons ?_; (refine st_call (av := [_]) rfl (flight_spec b s1 a cap) (.cons selA (.nil _)) ?_; rintro v L' ⟨rfl, rfl⟩))
            all_goals refine wEql ?_
            all_goals refine wAssign ?_
            all_goals refine ow_nil ?_)
        | (
            refine cw_region (id := 27) rfl ?_
            all_goals refine wMove ?_
            all_goals refine wSub ?_
            all_goals refine wMove ?_
            all_goals refine wSub ?_
            all_goals refine wAssign ?_
            all_goals refine ow_nil ?_)
        | (
            refine cw_region (id := 28) rfl ?_
            all_goals refine wMove ?_
            all_goals refine wMove ?_
            all_goals (refine ow_cons ?_; first | refine gNo ?_ | refine gUn ?_ | (refine gYes ?_; refine kMove ?_) | (refine gTt ?_; refine kMove ?_) | refine gFt ?_ | (refine gSt (fun hc => ?_) (fun hc => ?_); (focus (refine kMove ?_))) | (refine gBt (fun hc => ?_) (fun hc => ?_); (focus (refine kMove ?_))))
            all_goals (refine ow_cons ?_; first | refine gNo ?_ | refine gUn ?_ | (refine gYes ?_; refine kEql ?_) | (refine gTt ?_; refine kEql ?_) | refine gFt ?_ | (refine gSt (fun hc => ?_) (fun hc => ?_); (focus (refine kEql ?_))) | (refine gBt (fun hc => ?_) (fun hc => ?_); (focus (refine kEql ?_))))
            all_goals refine wPick ?_
            all_goals refine wMove ?_
            all_goals (refine ow_cons ?_; first | refine gNo ?_ | refine gUn ?_ | (refine gYes ?_; refine kMove ?_) | (refine gTt ?_; refine kMove ?_) | refine gFt ?_ | (refine gSt (fun hc => ?_) (fun hc => ?_); (focus (refine kMove ?_))) | (refine gBt (fun hc => ?_) (fun hc => ?_); (focus (refine kMove ?_))))
            all_goals (refine ow_cons ?_; first | refine gNo ?_ | refine gUn ?_ | (refine gYes ?_; refine kMove ?_) | (refine gTt ?_; refine kMove ?_) | refine gFt ?_ | (refine gSt (fun hc => ?_) (fun hc => ?_); (focus (refine kMove ?_))) | (refine gBt (fun hc => ?_) (fun hc => ?_); (focus (refine kMove ?_))))
            all_goals (refine ow_cons ?_; first | refine gNo ?_ | refine gUn ?_ | (refine gYes ?_; refine kMul ?_) | (refine gTt ?_; refine kMul ?_) | refine gFt ?_ | (refine gSt (fun hc => ?_) (fun hc => ?_); (focus (refine kMul ?_))) | (refine gBt (fun hc => ?_) (fun hc => ?_); (focus (refine kMul ?_))))
            all_goals (refine ow_cons ?_; first | refine gNo ?_ | refine gUn ?_ | (refine gYes ?_; refine kQuo ?_) | (refine gTt ?_; refine kQuo ?_) | refine gFt ?_ | (refine gSt (fun hc => ?_) (fun hc => ?_); (focus (refine kQuo ?_))) | (refine gBt (fun hc => ?_) (fun hc => ?_); (focus (refine kQuo ?_))))
            all_goals (refine ow_cons ?_; first | refine gNo ?_ | refine gUn ?_ | (refine gYes ?_; refine kMax ?_) | (refine gTt ?_; refine kMax ?_) | refine gFt ?_ | (refine gSt (fun hc => ?_) (fun hc => ?_); (focus (refine kMax ?_))) | (refine gBt (fun hc => ?_) (fun hc => ?_); (focus (refine kMax ?_))))
            all_goals (refine ow_cons ?_; first | refine gNo ?_ | refine gUn ?_ | (refine gYes ?_; refine kAdd ?_) | (refine gTt ?_; refine kAdd ?_) | refine gFt ?_ | (refine gSt (fun hc => ?_) (fun hc => ?_); (focus (refine kAdd ?_))) | (refine gBt (fun hc => ?_) (fun hc => ?_); (focus (refine kAdd ?_))))
            all_goals (refine ow_cons ?_; first | refine gNo ?_ | refine gUn ?_ | (refine gYes ?_; refine kEql ?_) | (refine gTt ?_; refine kEql ?_) | refine gFt ?_ | (refine gSt (fun hc => ?_) (fun hc => ?_); (focus (refine kEql ?_))) | (refine gBt (fun hc => ?_) (fun hc => ?_); (focus (refine kEql ?_))))
            all_goals refine wPick ?_
            all_goals refine wMove ?_
            all_goals (refine ow_cons ?_; first | refine gNo ?_ | refine gUn ?_ | (refine gYes ?_; refine kMove ?_) | (refine gTt ?_; refine kMove ?_) | refine gFt ?_ | (refine gSt (fun hc => ?_) (fun hc => ?_); (focus (refine kMove ?_))) | (refine gBt (fun hc => ?_) (fun hc => ?_); (focus (refine kMove ?_))))
            all_goals (refine ow_cons ?_; first | refine gNo ?_ | refine gUn ?_ | (refine gYes ?_; refine kLen ?_) | (refine gTt ?_; refine kLen ?_) | refine gFt ?_ | (refine gSt (fun hc => ?_) (fun hc => ?_); (focus (refine kLen ?_))) | (refine gBt (fun hc => ?_) (fun hc => ?_); (focus (refine kLen ?_))))
            all_goals (refine ow_cons ?_; first | refine gNo ?_ | refine gUn ?_ | (refine gYes ?_; refine kMove ?_) | (refine gTt ?_; refine kMove ?_) | refine gFt ?_ | (refine gSt (fun hc => ?_) (fun hc => ?_); (focus (refine kMove ?_))) | (refine gBt (fun hc => ?_) (fun hc => ?_); (focus (refine kMove ?_))))
            all_goals (refine ow_cons ?_; first | refine gNo ?_ | refine gUn ?_ | (refine gYes ?_; refine kEql ?_) | (refine gTt ?_; refine kEql ?_) | refine gFt ?_ | (refine gSt (fun hc => ?_) (fun hc => ?_); (focus (refine kEql ?_))) | (refine gBt (fun hc => ?_) (fun hc => ?_); (focus (refine kEql ?_))))
            all_goals refine wPick ?_
            all_goals refine wMove ?_
            all_goals (refine ow_cons ?_; first | refine gNo ?_ | refine gUn ?_ | (refine gYes ?_; refine kMove ?_) | (refine gTt ?_; refine kMove ?_) | refine gFt ?_ | (refine gSt (fun hc => ?_) (fun hc => ?_); (focus (refine kMove ?_))) | (refine gBt (fun hc => ?_) (fun hc => ?_); (focus (refine kMove ?_))))
            all_goals (refine ow_cons ?_; first | refine gNo ?_ | refine gUn ?_ | (refine gYes ?_; (refine st_call (av := [_]) rfl (flight_spec b s1 a cap) (.cons selA (.nil _)) ?_; rintro v L' ⟨rfl, rfl⟩)) | (refine gTt ?_; (refine st_call (av := [_]) rfl (flight_spec b s1 a cap) (.cons selA (.nil _)) ?_; rintro v L' ⟨rfl, rfl⟩)) | refine gFt ?_ | (refine gSt (fun hc => ?_) (fun hc => ?_); (focus ((refine st_call (av := [_]) rfl (flight_spec b s1 a cap) (.cons selA (.nil _)) ?_; rintro v L' ⟨rfl, rfl⟩)))) | (refine gBt (fun hc => ?_) (fun hc => ?_); (focus ((refine st_call (av := [_]) rfl (flight_spec b s1 a cap) (.cons selA (.nil _)) ?_; rintro v L' ⟨rfl, rfl⟩)))))
            all_goals (refine ow_cons ?_; first | refine gNo ?_ | refine gUn ?_ | (refine gYes ?_; refine kEql ?_) | (refine gTt ?_; refine kEql ?_) | refine gFt ?_ | (refine gSt (fun hc => ?_) (fun hc => ?_); (focus (refine kEql ?_))) | (refine gBt (fun hc => ?_) (fun hc => ?_); (focus (refine kEql ?_))))
            all_goals refine wPick ?_
            all_goals refine wAssign ?_
            all_goals refine ow_nil ?_)
        | refine cw_seq ?_
        | refine tq_n ?_
        | (refine isCW ?_; first | refine cw_region rfl ?_ | refine cw_skip ?_ | refine cw_ret ?_ | refine cw_exit ?_ | refine cw_block ?_ | refine cTrue ?_ | refine cFalse ?_ | refine cT ?_ | refine cF ?_ | refine cS (fun hc => ?_) (fun hc => ?_) | refine cB (fun hc => ?_) (fun hc => ?_))
        | refine tq_ret ?_ | refine tq_exit ?_ | refine bq_n ?_ | refine bq_ret ?_ | refine bq_same ?_ | refine bq_ne rfl ?_
        | refine ow_cons ?_ | refine ow_nil ?_
        | (refine isOpK ?_; first
          | (refine isG ?_; first | refine opk_yes rfl rfl ?_ | refine opk_no rfl rfl ?_ | refine opk_no_undef rfl rfl ?_ | refine opk_g_t rfl rfl (by omega) ?_ | refine opk_g_f rfl rfl (by omega) ?_ | refine opk_g_s rfl rfl (fun hc => ?_) (fun hc => ?_) | refine opk_g_b rfl rfl (fun hc => ?_) (fun hc => ?_))
          | refine kRd ?_
          | refine kStore ?_
          | refine kStoreA ?_
          | refine kStoreR ?_
          | (refine kIdxR (fun g hg => ?_); subst hg)
          | (refine kIdxO (fun gb go hg => ?_); subst hg)
          | refine st_alloc (fun bN => ?_)
          | refine kBox (fun bN => ?_)
          | refine kBoxA (fun bN => ?_)
          | (refine st_buildSlice rfl rfl rfl rfl (fun bN => ?_))
          | (refine st_clearR rfl selA rfl (by omega) rfl rfl rfl ?_)
          | (refine st_clearR rfl selA (by omega) (by omega) rfl rfl rfl ?_)
          | (refine st_call (av := [_]) rfl (flight_spec b s1 a cap) (.cons selA (.nil _)) ?_; rintro v L' ⟨rfl, rfl⟩))
        | refine hw_cons ?_ | refine hw_nil ?_
        | (refine isOpS ?_; first
          | (refine os_isG ?_; first | refine os_yes rfl rfl ?_ | refine os_no rfl rfl ?_ | refine os_no_undef rfl rfl ?_ | refine os_g_t rfl rfl (by omega) ?_ | refine os_g_f rfl rfl (by omega) ?_ | refine os_g_s rfl rfl (fun hc => ?_) (fun hc => ?_) | refine os_g_b rfl rfl (fun hc => ?_) (fun hc => ?_))
          | refine sRd ?_))
      exact retQ_ret (retV_tmps [4] rfl rfl) ⟨(dec_t (by omega)).symm, rfl⟩ (fun _ _ h => pick0 h)
    · have hlate := gives_late m w ⟨by omega, hm39⟩ hw500 (by omega)
      rw [hs1] at hlate
      obtain ⟨htm, s2, l2, hf, hl2, hw2⟩ := hlate
      have hfl : s2.flight = 0 := give_flight (by have := fire_ok ok1 (10 + max (9 * w / 8) 1); rw [hf] at this; exact this) hw2
      repeat' (first
        | (
            refine cw_region (id := 0) rfl ?_
            all_goals refine wAssign ?_
            all_goals refine ow_nil ?_)
        | (
            refine cw_region (id := 2) rfl ?_
            all_goals refine wAssign ?_
            all_goals refine ow_nil ?_)
        | (
            refine cw_region (id := 3) rfl ?_
            all_goals refine wMove ?_
            all_goals refine wConv ?_
            all_goals refine wRem ?_
            all_goals refine wConv ?_
            all_goals refine wAdd ?_
            all_goals refine wMove ?_
            all_goals refine wConv ?_
            all_goals refine wRem ?_
            all_goals refine wConv ?_
            all_goals refine wAdd ?_
            all_goals refine wAssign ?_
            all_goals refine wAssign ?_
            all_goals refine ow_nil ?_)
        | (
            refine cw_region (id := 5) rfl ?_
            all_goals refine wAssign ?_
            all_goals refine ow_nil ?_)
        | (
            refine cw_region (id := 6) rfl ?_
            all_goals refine wMove ?_
            all_goals refine wMove ?_
            all_goals refine wLss ?_
            all_goals refine ow_nil ?_)
        | (
            refine cw_region (id := 9) rfl ?_
            all_goals refine wAssign ?_
            all_goals refine ow_nil ?_)
        | (
            refine cw_region (id := 7) rfl ?_
            all_goals refine wMove ?_
            all_goals refine wAdd ?_
            all_goals refine wAssign ?_
            all_goals refine ow_nil ?_)
        | (
            refine cw_region (id := 11) rfl ?_
            all_goals refine wMove ?_
            all_goals refine wNeq ?_
            all_goals refine wMove ?_
            all_goals (refine ow_cons ?_; first | refine gNo ?_ | refine gUn ?_ | (refine gYes ?_; refine kMove ?_) | (refine gTf ?_; refine kMove ?_) | refine gFf ?_ | (refine gSf (fun hc => ?_) (fun hc => ?_); rotate_left; (focus (refine kMove ?_)); rotate_right) | (refine gBf (fun hc => ?_) (fun hc => ?_); rotate_left; (focus (refine kMove ?_)); rotate_right))
            all_goals (refine ow_cons ?_; first | refine gNo ?_ | refine gUn ?_ | (refine gYes ?_; refine kLen ?_) | (refine gTf ?_; refine kLen ?_) | refine gFf ?_ | (refine gSf (fun hc => ?_) (fun hc => ?_); rotate_left; (focus (refine kLen ?_)); rotate_right) | (refine gBf (fun hc => ?_) (fun hc => ?_); rotate_left; (focus (refine kLen ?_)); rotate_right))
            all_goals (refine ow_cons ?_; first | refine gNo ?_ | refine gUn ?_ | (refine gYes ?_; refine kNeq ?_) | (refine gTf ?_; refine kNeq ?_) | refine gFf ?_ | (refine gSf (fun hc => ?_) (fun hc => ?_); rotate_left; (focus (refine kNeq ?_)); rotate_right) | (refine gBf (fun hc => ?_) (fun hc => ?_); rotate_left; (focus (refine kNeq ?_)); rotate_right))
            all_goals refine wPick ?_
            all_goals refine wMove ?_
            all_goals (refine ow_cons ?_; first | refine gNo ?_ | refine gUn ?_ | (refine gYes ?_; refine kMove ?_) | (refine gTf ?_; refine kMove ?_) | refine gFf ?_ | (refine gSf (fun hc => ?_) (fun hc => ?_); rotate_left; (focus (refine kMove ?_)); rotate_right) | (refine gBf (fun hc => ?_) (fun hc => ?_); rotate_left; (focus (refine kMove ?_)); rotate_right))
            all_goals (refine ow_cons ?_; first | refine gNo ?_ | refine gUn ?_ | (refine gYes ?_; first | refine kIndex ?_ | (refine kIdxR (fun g hg => ?_); subst hg) | (refine kIdxO (fun gb go hg => ?_); subst hg)) | (refine gTf ?_; first | refine kIndex ?_ | (refine kIdxR (fun g hg => ?_); subst hg) | (refine kIdxO (fun gb go hg => ?_); subst hg)) | refine gFf ?_ | (refine gSf (fun hc => ?_) (fun hc => ?_); rotate_left; (focus (first | refine kIndex ?_ | (refine kIdxR (fun g hg => ?_); subst hg) | (refine kIdxO (fun gb go hg => ?_); subst hg))); rotate_right) | (refine gBf (fun hc => ?_) (fun hc => ?_); rotate_left; (focus (first | refine kIndex ?_ | (refine kIdxR (fun g hg => ?_); subst hg) | (refine kIdxO (fun gb go hg => ?_); subst hg))); rotate_right))
            all_goals (refine ow_cons ?_; first | refine gNo ?_ | refine gUn ?_ | (refine gYes ?_; refine kLoad ?_) | (refine gTf ?_; refine kLoad ?_) | refine gFf ?_ | (refine gSf (fun hc => ?_) (fun hc => ?_); rotate_left; (focus (refine kLoad ?_)); rotate_right) | (refine gBf (fun hc => ?_) (fun hc => ?_); rotate_left; (focus (refine kLoad ?_)); rotate_right))
            all_goals (refine ow_cons ?_; first | refine gNo ?_ | refine gUn ?_ | (refine gYes ?_; refine kMove ?_) | (refine gTf ?_; refine kMove ?_) | refine gFf ?_ | (refine gSf (fun hc => ?_) (fun hc => ?_); rotate_left; (focus (refine kMove ?_)); rotate_right) | (refine gBf (fun hc => ?_) (fun hc => ?_); rotate_left; (focus (refine kMove ?_)); rotate_right))
            all_goals (refine ow_cons ?_; first | refine gNo ?_ | refine gUn ?_ | (refine gYes ?_; refine kSub ?_) | (refine gTf ?_; refine kSub ?_) | refine gFf ?_ | (refine gSf (fun hc => ?_) (fun hc => ?_); rotate_left; (focus (refine kSub ?_)); rotate_right) | (refine gBf (fun hc => ?_) (fun hc => ?_); rotate_left; (focus (refine kSub ?_)); rotate_right))
            all_goals (refine ow_cons ?_; first | refine gNo ?_ | refine gUn ?_ | (refine gYes ?_; refine kNeq ?_) | (refine gTf ?_; refine kNeq ?_) | refine gFf ?_ | (refine gSf (fun hc => ?_) (fun hc => ?_); rotate_left; (focus (refine kNeq ?_)); rotate_right) | (refine gBf (fun hc => ?_) (fun hc => ?_); rotate_left; (focus (refine kNeq ?_)); rotate_right))
            all_goals refine wPick ?_
            all_goals refine ow_nil ?_)
        | (
            refine cw_region (id := 12) rfl ?_
            all_goals refine wAssign ?_
            all_goals refine ow_nil ?_)
        | (
            refine cw_region (id := 13) rfl ?_
            all_goals refine wMove ?_
            all_goals refine wSub ?_
            all_goals refine wMax ?_
            all_goals refine wAssign ?_
            all_goals refine ow_nil ?_)
        | (
            refine cw_region (id := 14) rfl ?_
            all_goals refine wMove ?_
            all_goals refine wMul ?_
            all_goals refine wQuo ?_
            all_goals refine wMove ?_
            all_goals refine wLeq ?_
            all_goals refine wMove ?_
            all_goals (refine ow_cons ?_; first | refine gNo ?_ | refine gUn ?_ | (refine gYes ?_; refine kMove ?_) | (refine gTf ?_; refine kMove ?_) | refine gFf ?_ | (refine gSf (fun hc => ?_) (fun hc => ?_); rotate_left; (focus (refine kMove ?_)); rotate_right) | (refine gBf (fun hc => ?_) (fun hc => ?_); rotate_left; (focus (refine kMove ?_)); rotate_right))
            all_goals (refine ow_cons ?_; first | refine gNo ?_ | refine gUn ?_ | (refine gYes ?_; refine kLss ?_) | (refine gTf ?_; refine kLss ?_) | refine gFf ?_ | (refine gSf (fun hc => ?_) (fun hc => ?_); rotate_left; (focus (refine kLss ?_)); rotate_right) | (refine gBf (fun hc => ?_) (fun hc => ?_); rotate_left; (focus (refine kLss ?_)); rotate_right))
            all_goals refine wPick ?_
            all_goals refine ow_nil ?_)
        | (
            refine cw_region (id := 15) rfl ?_
            all_goals refine wMove ?_
            all_goals refine wLen ?_
            all_goals refine wMove ?_
            all_goals refine wGeq ?_
            all_goals refine wAssign ?_
            all_goals refine ow_nil ?_)
        | (
            refine cw_region (id := 16) rfl ?_
            all_goals refine wMove ?_
            all_goals refine wLen ?_
            all_goals refine wMove ?_
            all_goals refine wNeq ?_
            all_goals refine ow_nil ?_)
        | (
            refine cw_region (id := 17) rfl ?_
            all_goals refine wAssign ?_
            all_goals refine ow_nil ?_)
        | (
            refine cw_region (id := 18) rfl ?_
            all_goals refine wAssign ?_
            all_goals refine ow_nil ?_)
        | (
            refine cw_region (id := 19) rfl ?_
            all_goals refine wMove ?_
            all_goals refine wMove ?_
            all_goals refine wLen ?_
            all_goals refine wLss ?_
            all_goals refine ow_nil ?_)
        | (
            refine cw_region (id := 21) rfl ?_
            all_goals refine wMove ?_
            all_goals refine wMove ?_
            all_goals (refine ow_cons ?_; first | refine kIndex ?_ | (refine kIdxR (fun g hg => ?_); subst hg) | (refine kIdxO (fun gb go hg => ?_); subst hg))
            all_goals refine wLoad ?_
            all_goals refine wMove ?_
            all_goals refine wNeq ?_
            all_goals refine ow_nil ?_)
        | (
            refine cw_region (id := 22) rfl ?_
            all_goals refine wAssign ?_
            all_goals refine ow_nil ?_)
        | (
            refine cw_region (id := 20) rfl ?_
            all_goals refine wMove ?_
            all_goals refine wAdd ?_
            all_goals refine wAssign ?_
            all_goals refine ow_nil ?_)
        | (
            refine cw_region (id := 23) rfl ?_
            all_goals refine wMove ?_
            all_goals refine wEql ?_
            all_goals refine ow_nil ?_)
        | (
            refine cw_region (id := 24) rfl ?_
            all_goals refine wMove ?_
            all_goals (refine ow_cons ?_; (refine st_call (av := [_]) rfl (flight_spec b s2 a cap) (.cons selA (.nil _)) ?_; rintro v L' ⟨rfl, rfl⟩))
            all_goals refine wEql ?_
            all_goals refine wAssign ?_
            all_goals refine ow_nil ?_)
        | (
            refine cw_region (id := 25) rfl ?_
            all_goals refine wMove ?_
            all_goals (refine ow_cons ?_; (refine st_call (av := [_]) rfl (timerAs b s1 a cap ok1 htm) (.cons selA (.cons selA (.nil _))) ?_; rintro v L' ⟨rfl, rfl⟩))
            all_goals refine wMove ?_
            all_goals refine wExtract ?_
            all_goals refine wExtract ?_
            all_goals refine wAssign ?_
            all_goals refine wAssign ?_
            all_goals refine ow_nil ?_)
        | (
            refine cw_region (id := 26) rfl ?_
            all_goals refine wMove ?_
            all_goals refine wMove ?_
            all_goals (refine ow_cons ?_; (refine st_call (av := [_, _]) rfl (fireAs b a cap s1 s2 _ l2 false ok1 hf) (.cons selA (.cons selA (.nil _))) ?_; rintro v L' ⟨a3, c3, rfl, rfl⟩))
            all_goals refine wMove ?_
            all_goals refine wExtract ?_
            all_goals refine wExtract ?_
            all_goals refine wExtract ?_
            all_goals refine wAssign ?_
            all_goals refine wAssign ?_
            all_goals refine wAssign ?_
            all_goals refine ow_nil ?_)
        | (
            refine cw_region (id := 27) rfl ?_
            all_goals refine wMove ?_
            all_goals refine wSub ?_
            all_goals refine wMove ?_
            all_goals refine wSub ?_
            all_goals refine wAssign ?_
            all_goals refine ow_nil ?_)
        | (
            refine cw_region (id := 28) rfl ?_
            all_goals refine wMove ?_
            all_goals refine wMove ?_
            all_goals (refine ow_cons ?_; first | refine gNo ?_ | refine gUn ?_ | (refine gYes ?_; refine kMove ?_) | (refine gTt ?_; refine kMove ?_) | refine gFt ?_ | (refine gSt (fun hc => ?_) (fun hc => ?_); (focus (refine kMove ?_))) | (refine gBt (fun hc => ?_) (fun hc => ?_); (focus (refine kMove ?_))))
            all_goals (refine ow_cons ?_; first | refine gNo ?_ | refine gUn ?_ | (refine gYes ?_; refine kEql ?_) | (refine gTt ?_; refine kEql ?_) | refine gFt ?_ | (refine gSt (fun hc => ?_) (fun hc => ?_); (focus (refine kEql ?_))) | (refine gBt (fun hc => ?_) (fun hc => ?_); (focus (refine kEql ?_))))
            all_goals refine wPick ?_
            all_goals refine wMove ?_
            all_goals (refine ow_cons ?_; first | refine gNo ?_ | refine gUn ?_ | (refine gYes ?_; refine kMove ?_) | (refine gTt ?_; refine kMove ?_) | refine gFt ?_ | (refine gSt (fun hc => ?_) (fun hc => ?_); (focus (refine kMove ?_))) | (refine gBt (fun hc => ?_) (fun hc => ?_); (focus (refine kMove ?_))))
            all_goals (refine ow_cons ?_; first | refine gNo ?_ | refine gUn ?_ | (refine gYes ?_; refine kMove ?_) | (refine gTt ?_; refine kMove ?_) | refine gFt ?_ | (refine gSt (fun hc => ?_) (fun hc => ?_); (focus (refine kMove ?_))) | (refine gBt (fun hc => ?_) (fun hc => ?_); (focus (refine kMove ?_))))
            all_goals (refine ow_cons ?_; first | refine gNo ?_ | refine gUn ?_ | (refine gYes ?_; refine kMul ?_) | (refine gTt ?_; refine kMul ?_) | refine gFt ?_ | (refine gSt (fun hc => ?_) (fun hc => ?_); (focus (refine kMul ?_))) | (refine gBt (fun hc => ?_) (fun hc => ?_); (focus (refine kMul ?_))))
            all_goals (refine ow_cons ?_; first | refine gNo ?_ | refine gUn ?_ | (refine gYes ?_; refine kQuo ?_) | (refine gTt ?_; refine kQuo ?_) | refine gFt ?_ | (refine gSt (fun hc => ?_) (fun hc => ?_); (focus (refine kQuo ?_))) | (refine gBt (fun hc => ?_) (fun hc => ?_); (focus (refine kQuo ?_))))
            all_goals (refine ow_cons ?_; first | refine gNo ?_ | refine gUn ?_ | (refine gYes ?_; refine kMax ?_) | (refine gTt ?_; refine kMax ?_) | refine gFt ?_ | (refine gSt (fun hc => ?_) (fun hc => ?_); (focus (refine kMax ?_))) | (refine gBt (fun hc => ?_) (fun hc => ?_); (focus (refine kMax ?_))))
            all_goals (refine ow_cons ?_; first | refine gNo ?_ | refine gUn ?_ | (refine gYes ?_; refine kAdd ?_) | (refine gTt ?_; refine kAdd ?_) | refine gFt ?_ | (refine gSt (fun hc => ?_) (fun hc => ?_); (focus (refine kAdd ?_))) | (refine gBt (fun hc => ?_) (fun hc => ?_); (focus (refine kAdd ?_))))
            all_goals (refine ow_cons ?_; first | refine gNo ?_ | refine gUn ?_ | (refine gYes ?_; refine kEql ?_) | (refine gTt ?_; refine kEql ?_) | refine gFt ?_ | (refine gSt (fun hc => ?_) (fun hc => ?_); (focus (refine kEql ?_))) | (refine gBt (fun hc => ?_) (fun hc => ?_); (focus (refine kEql ?_))))
            all_goals refine wPick ?_
            all_goals refine wMove ?_
            all_goals (refine ow_cons ?_; first | refine gNo ?_ | refine gUn ?_ | (refine gYes ?_; refine kMove ?_) | (refine gTt ?_; refine kMove ?_) | refine gFt ?_ | (refine gSt (fun hc => ?_) (fun hc => ?_); (focus (refine kMove ?_))) | (refine gBt (fun hc => ?_) (fun hc => ?_); (focus (refine kMove ?_))))
            all_goals (refine ow_cons ?_; first | refine gNo ?_ | refine gUn ?_ | (refine gYes ?_; refine kLen ?_) | (refine gTt ?_; refine kLen ?_) | refine gFt ?_ | (refine gSt (fun hc => ?_) (fun hc => ?_); (focus (refine kLen ?_))) | (refine gBt (fun hc => ?_) (fun hc => ?_); (focus (refine kLen ?_))))
            all_goals (refine ow_cons ?_; first | refine gNo ?_ | refine gUn ?_ | (refine gYes ?_; refine kMove ?_) | (refine gTt ?_; refine kMove ?_) | refine gFt ?_ | (refine gSt (fun hc => ?_) (fun hc => ?_); (focus (refine kMove ?_))) | (refine gBt (fun hc => ?_) (fun hc => ?_); (focus (refine kMove ?_))))
            all_goals (refine ow_cons ?_; first | refine gNo ?_ | refine gUn ?_ | (refine gYes ?_; refine kEql ?_) | (refine gTt ?_; refine kEql ?_) | refine gFt ?_ | (refine gSt (fun hc => ?_) (fun hc => ?_); (focus (refine kEql ?_))) | (refine gBt (fun hc => ?_) (fun hc => ?_); (focus (refine kEql ?_))))
            all_goals refine wPick ?_
            all_goals refine wMove ?_
            all_goals (refine ow_cons ?_; first | refine gNo ?_ | refine gUn ?_ | (refine gYes ?_; refine kMove ?_) | (refine gTt ?_; refine kMove ?_) | refine gFt ?_ | (refine gSt (fun hc => ?_) (fun hc => ?_); (focus (refine kMove ?_))) | (refine gBt (fun hc => ?_) (fun hc => ?_); (focus (refine kMove ?_))))
            all_goals (refine ow_cons ?_; first | refine gNo ?_ | refine gUn ?_ | (refine gYes ?_; (refine st_call (av := [_]) rfl (flight_spec b s2 a cap) (.cons selA (.nil _)) ?_; rintro v L' ⟨rfl, rfl⟩)) | (refine gTt ?_; (refine st_call (av := [_]) rfl (flight_spec b s2 a cap) (.cons selA (.nil _)) ?_; rintro v L' ⟨rfl, rfl⟩)) | refine gFt ?_ | (refine gSt (fun hc => ?_) (fun hc => ?_); (focus ((refine st_call (av := [_]) rfl (flight_spec b s2 a cap) (.cons selA (.nil _)) ?_; rintro v L' ⟨rfl, rfl⟩)))) | (refine gBt (fun hc => ?_) (fun hc => ?_); (focus ((refine st_call (av := [_]) rfl (flight_spec b s2 a cap) (.cons selA (.nil _)) ?_; rintro v L' ⟨rfl, rfl⟩)))))
            all_goals (refine ow_cons ?_; first | refine gNo ?_ | refine gUn ?_ | (refine gYes ?_; refine kEql ?_) | (refine gTt ?_; refine kEql ?_) | refine gFt ?_ | (refine gSt (fun hc => ?_) (fun hc => ?_); (focus (refine kEql ?_))) | (refine gBt (fun hc => ?_) (fun hc => ?_); (focus (refine kEql ?_))))
            all_goals refine wPick ?_
            all_goals refine wAssign ?_
            all_goals refine ow_nil ?_)
        | refine cw_seq ?_
        | refine tq_n ?_
        | (refine isCW ?_; first | refine cw_region rfl ?_ | refine cw_skip ?_ | refine cw_ret ?_ | refine cw_exit ?_ | refine cw_block ?_ | refine cTrue ?_ | refine cFalse ?_ | refine cT ?_ | refine cF ?_ | refine cS (fun hc => ?_) (fun hc => ?_) | refine cB (fun hc => ?_) (fun hc => ?_))
        | refine tq_ret ?_ | refine tq_exit ?_ | refine bq_n ?_ | refine bq_ret ?_ | refine bq_same ?_ | refine bq_ne rfl ?_
        | refine ow_cons ?_ | refine ow_nil ?_
        | (refine isOpK ?_; first
          | (refine isG ?_; first | refine opk_yes rfl rfl ?_ | refine opk_no rfl rfl ?_ | refine opk_no_undef rfl rfl ?_ | refine opk_g_t rfl rfl (by omega) ?_ | refine opk_g_f rfl rfl (by omega) ?_ | refine opk_g_s rfl rfl (fun hc => ?_) (fun hc => ?_) | refine opk_g_b rfl rfl (fun hc => ?_) (fun hc => ?_))
          | refine kRd ?_
          | refine kStore ?_
          | refine kStoreA ?_
          | refine kStoreR ?_
          | (refine kIdxR (fun g hg => ?_); subst hg)
          | (refine kIdxO (fun gb go hg => ?_); subst hg)
          | refine st_alloc (fun bN => ?_)
          | refine kBox (fun bN => ?_)
          | refine kBoxA (fun bN => ?_)
          | (refine st_buildSlice rfl rfl rfl rfl (fun bN => ?_))
          | (refine st_clearR rfl selA rfl (by omega) rfl rfl rfl ?_)
          | (refine st_clearR rfl selA (by omega) (by omega) rfl rfl rfl ?_)
          | (refine st_call (av := [_]) rfl (timerAs b s1 a cap ok1 htm) (.cons selA (.cons selA (.nil _))) ?_; rintro v L' ⟨rfl, rfl⟩)
          | (refine st_call (av := [_, _]) rfl (fireAs b a cap s1 s2 _ l2 false ok1 hf) (.cons selA (.cons selA (.nil _))) ?_; rintro v L' ⟨a3, c3, rfl, rfl⟩)
          | (refine st_call (av := [_]) rfl (flight_spec b s2 a cap) (.cons selA (.nil _)) ?_; rintro v L' ⟨rfl, rfl⟩))
        | refine hw_cons ?_ | refine hw_nil ?_
        | (refine isOpS ?_; first
          | (refine os_isG ?_; first | refine os_yes rfl rfl ?_ | refine os_no rfl rfl ?_ | refine os_no_undef rfl rfl ?_ | refine os_g_t rfl rfl (by omega) ?_ | refine os_g_f rfl rfl (by omega) ?_ | refine os_g_s rfl rfl (fun hc => ?_) (fun hc => ?_) | refine os_g_b rfl rfl (fun hc => ?_) (fun hc => ?_))
          | refine sRd ?_))
      exact retQ_ret (retV_tmps [4] rfl rfl) ⟨(dec_t hfl).symm, rfl⟩ (fun _ _ h => pick0 h)
end Go.Proofs.Ytomaldjedncjoaa.E
