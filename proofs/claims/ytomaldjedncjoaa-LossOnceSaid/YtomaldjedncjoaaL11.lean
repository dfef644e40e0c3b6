/-
The law LossEnds, as the program's own code does it.
Conditions: each is said with its statement.
-/
import Derived.Test.YtomaldjedncjoaaM4
import Derived.Test.YtomaldjedncjoaaL10
set_option linter.unusedVariables false
namespace Go.Proofs.Ytomaldjedncjoaa.E
open Go
set_option maxRecDepth 100000
set_option maxHeartbeats 4000000
theorem ends7 (x y z : Int) : Spec Go.Proofs.Try.prog 7 #[i6 x, i6 y, i6 z] [] (fun v L => v = .bool true ∧ L = []) := by
  refine spec_of (args := [i6 x, i6 y, i6 z]) Go.Proofs.Try.func7 rfl rfl fun w0 hw0 => ?_
  obtain ⟨m, hm⟩ : ∃ m : Nat, x % 18446744073709551616 % 20 = m := ⟨_, (Int.toNat_of_nonneg (by omega)).symm⟩
  obtain ⟨sz, hsz⟩ : ∃ w : Int, 1 + y % 18446744073709551616 % 1000 = w := ⟨_, rfl⟩
  obtain ⟨t0, ht0⟩ : ∃ w : Int, z % 18446744073709551616 % 1000 = w := ⟨_, rfl⟩
  have hm19 : m ≤ 19 := by omega
  have hsz1 : 1 ≤ sz ∧ sz ≤ 1000 := by omega
  have ht1 : 0 ≤ t0 ∧ t0 ≤ 999 := by omega
  repeat' (first
    | (
        refine cw_region (id := 0) rfl ?_
        all_goals refine wAssign ?_
        all_goals refine ow_nil ?_)
    | (
        refine cw_region (id := 1) rfl ?_
        all_goals (refine ow_cons ?_; (refine st_call rfl travels8 (.nil _) ?_; rintro v L' ⟨rfl, rfl⟩))
        all_goals refine wNot ?_
        all_goals refine ow_nil ?_)
    | (
        refine cw_region (id := 2) rfl ?_
        all_goals refine wAssign ?_
        all_goals refine ow_nil ?_)
    | (
        refine cw_region (id := 3) rfl ?_
        all_goals refine wMove ?_
        all_goals refine wConv ?_
        all_goals refine wRem ?_
        all_goals refine wConv ?_
        all_goals refine wAdd ?_
        all_goals refine wMove ?_
        all_goals refine wConv ?_
        all_goals refine wRem ?_
        all_goals refine wConv ?_
        all_goals refine wAdd ?_
        all_goals refine wMove ?_
        all_goals refine wConv ?_
        all_goals refine wRem ?_
        all_goals refine wConv ?_
        all_goals refine wAssign ?_
        all_goals refine wAssign ?_
        all_goals refine wAssign ?_
        all_goals refine ow_nil ?_)
    | (
        refine cw_region (id := 4) rfl ?_
        all_goals (refine ow_cons ?_; (refine st_call rfl new_spec (.nil _) ?_; rintro v L' ⟨b, rfl, rfl⟩))
        all_goals refine wAssign ?_
        all_goals refine ow_nil ?_)
    | (
        refine cw_region (id := 5) rfl ?_
        all_goals refine wAssign ?_
        all_goals refine ow_nil ?_)
    | (
        refine cw_region (id := 6) rfl ?_
        all_goals refine wMove ?_
        all_goals refine wMove ?_
        all_goals refine wLss ?_
        all_goals refine ow_nil ?_)
    | (
        refine cw_region (id := 9) rfl ?_
        all_goals refine wAssign ?_
        all_goals refine ow_nil ?_)
    | (
        refine cw_region (id := 7) rfl ?_
        all_goals refine wMove ?_
        all_goals refine wAdd ?_
        all_goals refine wAssign ?_
        all_goals refine ow_nil ?_)
    | (
        refine cw_region (id := 10) rfl ?_
        all_goals refine wAssign ?_
        all_goals refine ow_nil ?_)
    | (
        refine cw_region (id := 11) rfl ?_
        all_goals refine wAssign ?_
        all_goals refine ow_nil ?_)
    | (
        refine cw_region (id := 12) rfl ?_
        all_goals refine wMove ?_
        all_goals refine wLss ?_
        all_goals refine ow_nil ?_)
    | (
        refine cw_region (id := 15) rfl ?_
        all_goals refine wMove ?_
        all_goals refine wNot ?_
        all_goals refine wMove ?_
        all_goals (refine ow_cons ?_; first | (refine gTf ?_; refine kMove ?_) | refine gFf ?_ | refine gNo ?_ | refine gUn ?_ | (refine gYes ?_; refine kMove ?_) | (refine gSf (fun hc => ?_) (fun hc => ?_); rotate_left; (focus (refine kMove ?_)); rotate_right) | (refine gBf (fun hc => ?_) (fun hc => ?_); rotate_left; (focus (refine kMove ?_)); rotate_right))
        all_goals (refine ow_cons ?_; first | (refine gTf ?_; refine kMove ?_) | refine gFf ?_ | refine gNo ?_ | refine gUn ?_ | (refine gYes ?_; refine kMove ?_) | (refine gSf (fun hc => ?_) (fun hc => ?_); rotate_left; (focus (refine kMove ?_)); rotate_right) | (refine gBf (fun hc => ?_) (fun hc => ?_); rotate_left; (focus (refine kMove ?_)); rotate_right))
        all_goals (refine ow_cons ?_; first | (refine gTf ?_; refine kLeq ?_) | refine gFf ?_ | refine gNo ?_ | refine gUn ?_ | (refine gYes ?_; refine kLeq ?_) | (refine gSf (fun hc => ?_) (fun hc => ?_); rotate_left; (focus (refine kLeq ?_)); rotate_right) | (refine gBf (fun hc => ?_) (fun hc => ?_); rotate_left; (focus (refine kLeq ?_)); rotate_right))
        all_goals refine wPick ?_
        all_goals refine wMove ?_
        all_goals (refine ow_cons ?_; first | (refine gTf ?_; refine kMove ?_) | refine gFf ?_ | refine gNo ?_ | refine gUn ?_ | (refine gYes ?_; refine kMove ?_) | (refine gSf (fun hc => ?_) (fun hc => ?_); rotate_left; (focus (refine kMove ?_)); rotate_right) | (refine gBf (fun hc => ?_) (fun hc => ?_); rotate_left; (focus (refine kMove ?_)); rotate_right))
        all_goals (refine ow_cons ?_; first | (refine gTf ?_; refine kGtr ?_) | refine gFf ?_ | refine gNo ?_ | refine gUn ?_ | (refine gYes ?_; refine kGtr ?_) | (refine gSf (fun hc => ?_) (fun hc => ?_); rotate_left; (focus (refine kGtr ?_)); rotate_right) | (refine gBf (fun hc => ?_) (fun hc => ?_); rotate_left; (focus (refine kGtr ?_)); rotate_right))
        all_goals (refine ow_cons ?_; first | (refine gTf ?_; refine kMove ?_) | refine gFf ?_ | refine gNo ?_ | refine gUn ?_ | (refine gYes ?_; refine kMove ?_) | (refine gSf (fun hc => ?_) (fun hc => ?_); rotate_left; (focus (refine kMove ?_)); rotate_right) | (refine gBf (fun hc => ?_) (fun hc => ?_); rotate_left; (focus (refine kMove ?_)); rotate_right))
        all_goals (refine ow_cons ?_; first | (refine gTt ?_; refine kMove ?_) | refine gFt ?_ | refine gNo ?_ | refine gUn ?_ | (refine gYes ?_; refine kMove ?_) | (refine gSt (fun hc => ?_) (fun hc => ?_); (focus (refine kMove ?_))) | (refine gBt (fun hc => ?_) (fun hc => ?_); (focus (refine kMove ?_))))
        all_goals (refine ow_cons ?_; first | (refine gTt ?_; refine kMove ?_) | refine gFt ?_ | refine gNo ?_ | refine gUn ?_ | (refine gYes ?_; refine kMove ?_) | (refine gSt (fun hc => ?_) (fun hc => ?_); (focus (refine kMove ?_))) | (refine gBt (fun hc => ?_) (fun hc => ?_); (focus (refine kMove ?_))))
        all_goals (refine ow_cons ?_; first | (refine gTt ?_; refine kSub ?_) | refine gFt ?_ | refine gNo ?_ | refine gUn ?_ | (refine gYes ?_; refine kSub ?_) | (refine gSt (fun hc => ?_) (fun hc => ?_); (focus (refine kSub ?_))) | (refine gBt (fun hc => ?_) (fun hc => ?_); (focus (refine kSub ?_))))
        all_goals (refine ow_cons ?_; first | (refine gTt ?_; refine kMove ?_) | refine gFt ?_ | refine gNo ?_ | refine gUn ?_ | (refine gYes ?_; refine kMove ?_) | (refine gSt (fun hc => ?_) (fun hc => ?_); (focus (refine kMove ?_))) | (refine gBt (fun hc => ?_) (fun hc => ?_); (focus (refine kMove ?_))))
        all_goals (refine ow_cons ?_; first | (refine gTt ?_; refine kMul ?_) | refine gFt ?_ | refine gNo ?_ | refine gUn ?_ | (refine gYes ?_; refine kMul ?_) | (refine gSt (fun hc => ?_) (fun hc => ?_); (focus (refine kMul ?_))) | (refine gBt (fun hc => ?_) (fun hc => ?_); (focus (refine kMul ?_))))
        all_goals (refine ow_cons ?_; first | (refine gTt ?_; refine kNeq ?_) | refine gFt ?_ | refine gNo ?_ | refine gUn ?_ | (refine gYes ?_; refine kNeq ?_) | (refine gSt (fun hc => ?_) (fun hc => ?_); (focus (refine kNeq ?_))) | (refine gBt (fun hc => ?_) (fun hc => ?_); (focus (refine kNeq ?_))))
        all_goals (refine ow_cons ?_; first | (refine gTf ?_; refine kPick ?_) | refine gFf ?_ | refine gNo ?_ | refine gUn ?_ | (refine gYes ?_; refine kPick ?_) | (refine gSf (fun hc => ?_) (fun hc => ?_); rotate_left; (focus (refine kPick ?_)); rotate_right) | (refine gBf (fun hc => ?_) (fun hc => ?_); rotate_left; (focus (refine kPick ?_)); rotate_right))
        all_goals refine wPick ?_
        all_goals refine ow_nil ?_)
    | (
        refine cw_region (id := 16) rfl ?_
        all_goals refine wAssign ?_
        all_goals refine ow_nil ?_)
    | (
        refine cw_region (id := 17) rfl ?_
        all_goals refine wMove ?_
        all_goals refine wMove ?_
        all_goals refine wSub ?_
        all_goals refine wAssign ?_
        all_goals refine ow_nil ?_)
    | (
        refine cw_region (id := 20) rfl ?_
        all_goals refine wMove ?_
        all_goals refine wNeq ?_
        all_goals refine wMove ?_
        all_goals (refine ow_cons ?_; first | (refine gTf ?_; refine kMove ?_) | refine gFf ?_ | refine gNo ?_ | refine gUn ?_ | (refine gYes ?_; refine kMove ?_) | (refine gSf (fun hc => ?_) (fun hc => ?_); rotate_left; (focus (refine kMove ?_)); rotate_right) | (refine gBf (fun hc => ?_) (fun hc => ?_); rotate_left; (focus (refine kMove ?_)); rotate_right))
        all_goals (refine ow_cons ?_; first | (refine gTf ?_; refine kNeq ?_) | refine gFf ?_ | refine gNo ?_ | refine gUn ?_ | (refine gYes ?_; refine kNeq ?_) | (refine gSf (fun hc => ?_) (fun hc => ?_); rotate_left; (focus (refine kNeq ?_)); rotate_right) | (refine gBf (fun hc => ?_) (fun hc => ?_); rotate_left; (focus (refine kNeq ?_)); rotate_right))
        all_goals refine wPick ?_
        all_goals refine wMove ?_
        all_goals (refine ow_cons ?_; first | (refine gTf ?_; refine kMove ?_) | refine gFf ?_ | refine gNo ?_ | refine gUn ?_ | (refine gYes ?_; refine kMove ?_) | (refine gSf (fun hc => ?_) (fun hc => ?_); rotate_left; (focus (refine kMove ?_)); rotate_right) | (refine gBf (fun hc => ?_) (fun hc => ?_); rotate_left; (focus (refine kMove ?_)); rotate_right))
        all_goals refine wPick ?_
        all_goals refine wMove ?_
        all_goals (refine ow_cons ?_; first | (refine gTf ?_; refine kMove ?_) | refine gFf ?_ | refine gNo ?_ | refine gUn ?_ | (refine gYes ?_; refine kMove ?_) | (refine gSf (fun hc => ?_) (fun hc => ?_); rotate_left; (focus (refine kMove ?_)); rotate_right) | (refine gBf (fun hc => ?_) (fun hc => ?_); rotate_left; (focus (refine kMove ?_)); rotate_right))
        all_goals (refine ow_cons ?_; first | (refine gTf ?_; refine kNot ?_) | refine gFf ?_ | refine gNo ?_ | refine gUn ?_ | (refine gYes ?_; refine kNot ?_) | (refine gSf (fun hc => ?_) (fun hc => ?_); rotate_left; (focus (refine kNot ?_)); rotate_right) | (refine gBf (fun hc => ?_) (fun hc => ?_); rotate_left; (focus (refine kNot ?_)); rotate_right))
        all_goals refine wPick ?_
        all_goals refine ow_nil ?_)
    | (
        refine cw_region (id := 21) rfl ?_
        all_goals refine wAssign ?_
        all_goals refine ow_nil ?_)
    | (
        refine cw_region (id := 13) rfl ?_
        all_goals refine wMove ?_
        all_goals refine wAdd ?_
        all_goals refine wAssign ?_
        all_goals refine ow_nil ?_)
    | refine cw_seq ?_
    | refine tq_n ?_
    | (refine isCW ?_; first | refine cw_region rfl ?_ | refine cw_skip ?_ | refine cw_ret ?_ | refine cw_exit ?_ | refine cw_block ?_ | refine cT ?_ | refine cF ?_ | refine cTrue ?_ | refine cFalse ?_ | refine cS (fun hc => ?_) (fun hc => ?_) | refine cB (fun hc => ?_) (fun hc => ?_))
    | refine tq_ret ?_ | refine tq_exit ?_ | refine bq_n ?_ | refine bq_ret ?_ | refine bq_same ?_ | refine bq_ne rfl ?_
    | refine ow_cons ?_ | refine ow_nil ?_
    | (refine isOpK ?_; first
      | (refine isG ?_; first | refine opk_yes rfl rfl ?_ | refine opk_no rfl rfl ?_ | refine opk_no_undef rfl rfl ?_ | refine opk_g_t rfl rfl (by omega) ?_ | refine opk_g_f rfl rfl (by omega) ?_ | refine opk_g_s rfl rfl (fun hc => ?_) (fun hc => ?_) | refine opk_g_b rfl rfl (fun hc => ?_) (fun hc => ?_))
      | refine kRd ?_
      | refine kStore ?_
      | refine kStoreA ?_
      | refine kStoreR ?_
      | (refine kIdxR (fun g hg => ?_); subst hg)
      | (refine kIdxO (fun gb go hg => ?_); subst hg)
      | refine st_alloc (fun bN => ?_)
      | refine kBox (fun bN => ?_)
      | refine kBoxA (fun bN => ?_)
      | (refine st_buildSlice rfl rfl rfl rfl (fun bN => ?_))
      | (refine st_clearR rfl selA rfl (by omega) rfl rfl rfl ?_)
      | (refine st_clearR rfl selA (by omega) (by omega) rfl rfl rfl ?_)
      | (refine st_call rfl travels8 (.nil _) ?_; rintro v L' ⟨rfl, rfl⟩)
      | (refine st_call rfl new_spec (.nil _) ?_; rintro v L' ⟨b, rfl, rfl⟩))
    | refine hw_cons ?_ | refine hw_nil ?_
    | (refine isOpS ?_; first
      | (refine os_isG ?_; first | refine os_yes rfl rfl ?_ | refine os_no rfl rfl ?_ | refine os_no_undef rfl rfl ?_ | refine os_g_t rfl rfl (by omega) ?_ | refine os_g_f rfl rfl (by omega) ?_ | refine os_g_s rfl rfl (fun hc => ?_) (fun hc => ?_) | refine os_g_b rfl rfl (fun hc => ?_) (fun hc => ?_))
      | refine sRd ?_))
  have h00 : sends sz t0 0 = newS := by simp [sends, newS]
  refine cw_rounds (S := fun g : Nat × Option Nat × Nat => [(0, i6 ((m : Int) + 1)), (1, i6 sz), (2, i6 t0), (6, .bool false), (7, ptr b), (8, .int .i64 (g.1 : Nat))]) (H := fun g => stR b (sends sz t0 g.1) g.2.1 g.2.2)
    (V := fun g => g.1 ≤ m + 1) (μ := fun g => m + 1 - g.1) (0, none, 0) ⟨congrArg i6 (show (1 : Int) + x % 18446744073709551616 % 20 = (m : Int) + 1 by omega), congrArg i6 hsz, congrArg i6 ht0, rfl, rfl, rfl, trivial⟩ (by simp only; omega) (fun _ h => by simp only [h00]; exact h) ?_
  rintro ⟨i, a, cap⟩ e' hi
  simp only at hi
  dsimp only [upds]
  rcases Nat.lt_or_ge i (m + 1) with hlt | hge
  · unfold stR
    repeat' (first
      | (
          refine cw_region (id := 0) rfl ?_
          all_goals refine wAssign ?_
          all_goals refine ow_nil ?_)
      | (
          refine cw_region (id := 2) rfl ?_
          all_goals refine wAssign ?_
          all_goals refine ow_nil ?_)
      | (
          refine cw_region (id := 3) rfl ?_
          all_goals refine wMove ?_
          all_goals refine wConv ?_
          all_goals refine wRem ?_
          all_goals refine wConv ?_
          all_goals refine wAdd ?_
          all_goals refine wMove ?_
          all_goals refine wConv ?_
          all_goals refine wRem ?_
          all_goals refine wConv ?_
          all_goals refine wAdd ?_
          all_goals refine wMove ?_
          all_goals refine wConv ?_
          all_goals refine wRem ?_
          all_goals refine wConv ?_
          all_goals refine wAssign ?_
          all_goals refine wAssign ?_
          all_goals refine wAssign ?_
          all_goals refine ow_nil ?_)
      | (
          refine cw_region (id := 5) rfl ?_
          all_goals refine wAssign ?_
          all_goals refine ow_nil ?_)
      | (
          refine cw_region (id := 6) rfl ?_
          all_goals refine wMove ?_
          all_goals refine wMove ?_
          all_goals refine wLss ?_
          all_goals refine ow_nil ?_)
      | (
          refine cw_region (id := 8) rfl ?_
          all_goals refine wMove ?_
          all_goals refine wMove ?_
          all_goals refine wMove ?_
          all_goals refine wMove ?_
          all_goals (refine ow_cons ?_; (refine st_call (av := [_, _, _, _, _]) rfl (sends_spec b sz t0 i a cap (by omega) (by omega) (by omega)) (selL_all _) ?_; rintro v L' ⟨a', cap', rfl, rfl⟩))
          all_goals refine wNeq ?_
          all_goals refine ow_nil ?_)
      | (
          refine cw_region (id := 9) rfl ?_
          all_goals refine wAssign ?_
          all_goals refine ow_nil ?_)
      | (
          refine cw_region (id := 7) rfl ?_
          all_goals refine wMove ?_
          all_goals refine wAdd ?_
          all_goals refine wAssign ?_
          all_goals refine ow_nil ?_)
      | (
          refine cw_region (id := 10) rfl ?_
          all_goals refine wAssign ?_
          all_goals refine ow_nil ?_)
      | (
          refine cw_region (id := 11) rfl ?_
          all_goals refine wAssign ?_
          all_goals refine ow_nil ?_)
      | (
          refine cw_region (id := 12) rfl ?_
          all_goals refine wMove ?_
          all_goals refine wLss ?_
          all_goals refine ow_nil ?_)
      | (
          refine cw_region (id := 15) rfl ?_
          all_goals refine wMove ?_
          all_goals refine wNot ?_
          all_goals refine wMove ?_
          all_goals (refine ow_cons ?_; first | (refine gTf ?_; refine kMove ?_) | refine gFf ?_ | refine gNo ?_ | refine gUn ?_ | (refine gYes ?_; refine kMove ?_) | (refine gSf (fun hc => ?_) (fun hc => ?_); rotate_left; (focus (refine kMove ?_)); rotate_right) | (refine gBf (fun hc => ?_) (fun hc => ?_); rotate_left; (focus (refine kMove ?_)); rotate_right))
          all_goals (refine ow_cons ?_; first | (refine gTf ?_; refine kMove ?_) | refine gFf ?_ | refine gNo ?_ | refine gUn ?_ | (refine gYes ?_; refine kMove ?_) | (refine gSf (fun hc => ?_) (fun hc => ?_); rotate_left; (focus (refine kMove ?_)); rotate_right) | (refine gBf (fun hc => ?_) (fun hc => ?_); rotate_left; (focus (refine kMove ?_)); rotate_right))
          all_goals (refine ow_cons ?_; first | (refine gTf ?_; refine kLeq ?_) | refine gFf ?_ | refine gNo ?_ | refine gUn ?_ | (refine gYes ?_; refine kLeq ?_) | (refine gSf (fun hc => ?_) (fun hc => ?_); rotate_left; (focus (refine kLeq ?_)); rotate_right) | (refine gBf (fun hc => ?_) (fun hc => ?_); rotate_left; (focus (refine kLeq ?_)); rotate_right))
          all_goals refine wPick ?_
          all_goals refine wMove ?_
          all_goals (refine ow_cons ?_; first | (refine gTf ?_; refine kMove ?_) | refine gFf ?_ | refine gNo ?_ | refine gUn ?_ | (refine gYes ?_; refine kMove ?_) | (refine gSf (fun hc => ?_) (fun hc => ?_); rotate_left; (focus (refine kMove ?_)); rotate_right) | (refine gBf (fun hc => ?_) (fun hc => ?_); rotate_left; (focus (refine kMove ?_)); rotate_right))
          all_goals (refine ow_cons ?_; first | (refine gTf ?_; refine kGtr ?_) | refine gFf ?_ | refine gNo ?_ | refine gUn ?_ | (refine gYes ?_; refine kGtr ?_) | (refine gSf (fun hc => ?_) (fun hc => ?_); rotate_left; (focus (refine kGtr ?_)); rotate_right) | (refine gBf (fun hc => ?_) (fun hc => ?_); rotate_left; (focus (refine kGtr ?_)); rotate_right))
          all_goals (refine ow_cons ?_; first | (refine gTf ?_; refine kMove ?_) | refine gFf ?_ | refine gNo ?_ | refine gUn ?_ | (refine gYes ?_; refine kMove ?_) | (refine gSf (fun hc => ?_) (fun hc => ?_); rotate_left; (focus (refine kMove ?_)); rotate_right) | (refine gBf (fun hc => ?_) (fun hc => ?_); rotate_left; (focus (refine kMove ?_)); rotate_right))
          all_goals (refine ow_cons ?_; first | (refine gTt ?_; refine kMove ?_) | refine gFt ?_ | refine gNo ?_ | refine gUn ?_ | (refine gYes ?_; refine kMove ?_) | (refine gSt (fun hc => ?_) (fun hc => ?_); (focus (refine kMove ?_))) | (refine gBt (fun hc => ?_) (fun hc => ?_); (focus (refine kMove ?_))))
          all_goals (refine ow_cons ?_; first | (refine gTt ?_; refine kMove ?_) | refine gFt ?_ | refine gNo ?_ | refine gUn ?_ | (refine gYes ?_; refine kMove ?_) | (refine gSt (fun hc => ?_) (fun hc => ?_); (focus (refine kMove ?_))) | (refine gBt (fun hc => ?_) (fun hc => ?_); (focus (refine kMove ?_))))
          all_goals (refine ow_cons ?_; first | (refine gTt ?_; refine kSub ?_) | refine gFt ?_ | refine gNo ?_ | refine gUn ?_ | (refine gYes ?_; refine kSub ?_) | (refine gSt (fun hc => ?_) (fun hc => ?_); (focus (refine kSub ?_))) | (refine gBt (fun hc => ?_) (fun hc => ?_); (focus (refine kSub ?_))))
          all_goals (refine ow_cons ?_; first | (refine gTt ?_; refine kMove ?_) | refine gFt ?_ | refine gNo ?_ | refine gUn ?_ | (refine gYes ?_; refine kMove ?_) | (refine gSt (fun hc => ?_) (fun hc => ?_); (focus (refine kMove ?_))) | (refine gBt (fun hc => ?_) (fun hc => ?_); (focus (refine kMove ?_))))
          all_goals (refine ow_cons ?_; first | (refine gTt ?_; refine kMul ?_) | refine gFt ?_ | refine gNo ?_ | refine gUn ?_ | (refine gYes ?_; refine kMul ?_) | (refine gSt (fun hc => ?_) (fun hc => ?_); (focus (refine kMul ?_))) | (refine gBt (fun hc => ?_) (fun hc => ?_); (focus (refine kMul ?_))))
          all_goals (refine ow_cons ?_; first | (refine gTt ?_; refine kNeq ?_) | refine gFt ?_ | refine gNo ?_ | refine gUn ?_ | (refine gYes ?_; refine kNeq ?_) | (refine gSt (fun hc => ?_) (fun hc => ?_); (focus (refine kNeq ?_))) | (refine gBt (fun hc => ?_) (fun hc => ?_); (focus (refine kNeq ?_))))
          all_goals (refine ow_cons ?_; first | (refine gTf ?_; refine kPick ?_) | refine gFf ?_ | refine gNo ?_ | refine gUn ?_ | (refine gYes ?_; refine kPick ?_) | (refine gSf (fun hc => ?_) (fun hc => ?_); rotate_left; (focus (refine kPick ?_)); rotate_right) | (refine gBf (fun hc => ?_) (fun hc => ?_); rotate_left; (focus (refine kPick ?_)); rotate_right))
          all_goals refine wPick ?_
          all_goals refine ow_nil ?_)
      | (
          refine cw_region (id := 16) rfl ?_
          all_goals refine wAssign ?_
          all_goals refine ow_nil ?_)
      | (
          refine cw_region (id := 17) rfl ?_
          all_goals refine wMove ?_
          all_goals refine wMove ?_
          all_goals refine wSub ?_
          all_goals refine wAssign ?_
          all_goals refine ow_nil ?_)
      | (
          refine cw_region (id := 20) rfl ?_
          all_goals refine wMove ?_
          all_goals refine wNeq ?_
          all_goals refine wMove ?_
          all_goals (refine ow_cons ?_; first | (refine gTf ?_; refine kMove ?_) | refine gFf ?_ | refine gNo ?_ | refine gUn ?_ | (refine gYes ?_; refine kMove ?_) | (refine gSf (fun hc => ?_) (fun hc => ?_); rotate_left; (focus (refine kMove ?_)); rotate_right) | (refine gBf (fun hc => ?_) (fun hc => ?_); rotate_left; (focus (refine kMove ?_)); rotate_right))
          all_goals (refine ow_cons ?_; first | (refine gTf ?_; refine kNeq ?_) | refine gFf ?_ | refine gNo ?_ | refine gUn ?_ | (refine gYes ?_; refine kNeq ?_) | (refine gSf (fun hc => ?_) (fun hc => ?_); rotate_left; (focus (refine kNeq ?_)); rotate_right) | (refine gBf (fun hc => ?_) (fun hc => ?_); rotate_left; (focus (refine kNeq ?_)); rotate_right))
          all_goals refine wPick ?_
          all_goals refine wMove ?_
          all_goals (refine ow_cons ?_; first | (refine gTf ?_; refine kMove ?_) | refine gFf ?_ | refine gNo ?_ | refine gUn ?_ | (refine gYes ?_; refine kMove ?_) | (refine gSf (fun hc => ?_) (fun hc => ?_); rotate_left; (focus (refine kMove ?_)); rotate_right) | (refine gBf (fun hc => ?_) (fun hc => ?_); rotate_left; (focus (refine kMove ?_)); rotate_right))
          all_goals refine wPick ?_
          all_goals refine wMove ?_
          all_goals (refine ow_cons ?_; first | (refine gTf ?_; refine kMove ?_) | refine gFf ?_ | refine gNo ?_ | refine gUn ?_ | (refine gYes ?_; refine kMove ?_) | (refine gSf (fun hc => ?_) (fun hc => ?_); rotate_left; (focus (refine kMove ?_)); rotate_right) | (refine gBf (fun hc => ?_) (fun hc => ?_); rotate_left; (focus (refine kMove ?_)); rotate_right))
          all_goals (refine ow_cons ?_; first | (refine gTf ?_; refine kNot ?_) | refine gFf ?_ | refine gNo ?_ | refine gUn ?_ | (refine gYes ?_; refine kNot ?_) | (refine gSf (fun hc => ?_) (fun hc => ?_); rotate_left; (focus (refine kNot ?_)); rotate_right) | (refine gBf (fun hc => ?_) (fun hc => ?_); rotate_left; (focus (refine kNot ?_)); rotate_right))
          all_goals refine wPick ?_
          all_goals refine ow_nil ?_)
      | (
          refine cw_region (id := 21) rfl ?_
          all_goals refine wAssign ?_
          all_goals refine ow_nil ?_)
      | (
          refine cw_region (id := 13) rfl ?_
          all_goals refine wMove ?_
          all_goals refine wAdd ?_
          all_goals refine wAssign ?_
          all_goals refine ow_nil ?_)
      | refine cw_seq ?_
      | refine tq_n ?_
      | (refine isCW ?_; first | refine cw_region rfl ?_ | refine cw_skip ?_ | refine cw_ret ?_ | refine cw_exit ?_ | refine cw_block ?_ | refine cT ?_ | refine cF ?_ | refine cTrue ?_ | refine cFalse ?_ | refine cS (fun hc => ?_) (fun hc => ?_) | refine cB (fun hc => ?_) (fun hc => ?_))
      | refine tq_ret ?_ | refine tq_exit ?_ | refine bq_n ?_ | refine bq_ret ?_ | refine bq_same ?_ | refine bq_ne rfl ?_
      | refine ow_cons ?_ | refine ow_nil ?_
      | (refine isOpK ?_; first
        | (refine isG ?_; first | refine opk_yes rfl rfl ?_ | refine opk_no rfl rfl ?_ | refine opk_no_undef rfl rfl ?_ | refine opk_g_t rfl rfl (by omega) ?_ | refine opk_g_f rfl rfl (by omega) ?_ | refine opk_g_s rfl rfl (fun hc => ?_) (fun hc => ?_) | refine opk_g_b rfl rfl (fun hc => ?_) (fun hc => ?_))
        | refine kRd ?_
        | refine kStore ?_
        | refine kStoreA ?_
        | refine kStoreR ?_
        | (refine kIdxR (fun g hg => ?_); subst hg)
        | (refine kIdxO (fun gb go hg => ?_); subst hg)
        | refine st_alloc (fun bN => ?_)
        | refine kBox (fun bN => ?_)
        | refine kBoxA (fun bN => ?_)
        | (refine st_buildSlice rfl rfl rfl rfl (fun bN => ?_))
        | (refine st_clearR rfl selA rfl (by omega) rfl rfl rfl ?_)
        | (refine st_clearR rfl selA (by omega) (by omega) rfl rfl rfl ?_)
        | (refine st_call (av := [_, _, _, _, _]) rfl (sends_spec b sz t0 i a cap (by omega) (by omega) (by omega)) (selL_all _) ?_; rintro v L' ⟨a', cap', rfl, rfl⟩))
      | refine hw_cons ?_ | refine hw_nil ?_
      | (refine isOpS ?_; first
        | (refine os_isG ?_; first | refine os_yes rfl rfl ?_ | refine os_no rfl rfl ?_ | refine os_no_undef rfl rfl ?_ | refine os_g_t rfl rfl (by omega) ?_ | refine os_g_f rfl rfl (by omega) ?_ | refine os_g_s rfl rfl (fun hc => ?_) (fun hc => ?_) | refine os_g_b rfl rfl (fun hc => ?_) (fun hc => ?_))
        | refine sRd ?_))
    exact lp_end (i + 1, a', cap') ⟨rfl, rfl, rfl, rfl, rfl, rfl, trivial⟩ (by simp only; omega) (by simp only; omega) (fun _ h => pick2 h selA selA)
  have hie : i = m + 1 := by omega
  subst hie
  clear hm hsz ht0 hi hge h00
  rw [ends_new]
  unfold stR
  repeat' (first
    | (
        refine cw_region (id := 0) rfl ?_
        all_goals refine wAssign ?_
        all_goals refine ow_nil ?_)
    | (
        refine cw_region (id := 2) rfl ?_
        all_goals refine wAssign ?_
        all_goals refine ow_nil ?_)
    | (
        refine cw_region (id := 3) rfl ?_
        all_goals refine wMove ?_
        all_goals refine wConv ?_
        all_goals refine wRem ?_
        all_goals refine wConv ?_
        all_goals refine wAdd ?_
        all_goals refine wMove ?_
        all_goals refine wConv ?_
        all_goals refine wRem ?_
        all_goals refine wConv ?_
        all_goals refine wAdd ?_
        all_goals refine wMove ?_
        all_goals refine wConv ?_
        all_goals refine wRem ?_
        all_goals refine wConv ?_
        all_goals refine wAssign ?_
        all_goals refine wAssign ?_
        all_goals refine wAssign ?_
        all_goals refine ow_nil ?_)
    | (
        refine cw_region (id := 5) rfl ?_
        all_goals refine wAssign ?_
        all_goals refine ow_nil ?_)
    | (
        refine cw_region (id := 6) rfl ?_
        all_goals refine wMove ?_
        all_goals refine wMove ?_
        all_goals refine wLss ?_
        all_goals refine ow_nil ?_)
    | (
        refine cw_region (id := 9) rfl ?_
        all_goals refine wAssign ?_
        all_goals refine ow_nil ?_)
    | (
        refine cw_region (id := 7) rfl ?_
        all_goals refine wMove ?_
        all_goals refine wAdd ?_
        all_goals refine wAssign ?_
        all_goals refine ow_nil ?_)
    | (
        refine cw_region (id := 10) rfl ?_
        all_goals refine wAssign ?_
        all_goals refine ow_nil ?_)
    | (
        refine cw_region (id := 11) rfl ?_
        all_goals refine wAssign ?_
        all_goals refine ow_nil ?_)
    | (
        refine cw_region (id := 12) rfl ?_
        all_goals refine wMove ?_
        all_goals refine wLss ?_
        all_goals refine ow_nil ?_)
    | (
        refine cw_region (id := 15) rfl ?_
        all_goals refine wMove ?_
        all_goals refine wNot ?_
        all_goals refine wMove ?_
        all_goals (refine ow_cons ?_; first | (refine gTf ?_; refine kMove ?_) | refine gFf ?_ | refine gNo ?_ | refine gUn ?_ | (refine gYes ?_; refine kMove ?_) | (refine gSf (fun hc => ?_) (fun hc => ?_); rotate_left; (focus (refine kMove ?_)); rotate_right) | (refine gBf (fun hc => ?_) (fun hc => ?_); rotate_left; (focus (refine kMove ?_)); rotate_right))
        all_goals (refine ow_cons ?_; first | (refine gTf ?_; refine kMove ?_) | refine gFf ?_ | refine gNo ?_ | refine gUn ?_ | (refine gYes ?_; refine kMove ?_) | (refine gSf (fun hc => ?_) (fun hc => ?_); rotate_left; (focus (refine kMove ?_)); rotate_right) | (refine gBf (fun hc => ?_) (fun hc => ?_); rotate_left; (focus (refine kMove ?_)); rotate_right))
        all_goals (refine ow_cons ?_; first | (refine gTf ?_; refine kLeq ?_) | refine gFf ?_ | refine gNo ?_ | refine gUn ?_ | (refine gYes ?_; refine kLeq ?_) | (refine gSf (fun hc => ?_) (fun hc => ?_); rotate_left; (focus (refine kLeq ?_)); rotate_right) | (refine gBf (fun hc => ?_) (fun hc => ?_); rotate_left; (focus (refine kLeq ?_)); rotate_right))
        all_goals refine wPick ?_
        all_goals refine wMove ?_
        all_goals (refine ow_cons ?_; first | (refine gTf ?_; refine kMove ?_) | refine gFf ?_ | refine gNo ?_ | refine gUn ?_ | (refine gYes ?_; refine kMove ?_) | (refine gSf (fun hc => ?_) (fun hc => ?_); rotate_left; (focus (refine kMove ?_)); rotate_right) | (refine gBf (fun hc => ?_) (fun hc => ?_); rotate_left; (focus (refine kMove ?_)); rotate_right))
        all_goals (refine ow_cons ?_; first | (refine gTf ?_; refine kGtr ?_) | refine gFf ?_ | refine gNo ?_ | refine gUn ?_ | (refine gYes ?_; refine kGtr ?_) | (refine gSf (fun hc => ?_) (fun hc => ?_); rotate_left; (focus (refine kGtr ?_)); rotate_right) | (refine gBf (fun hc => ?_) (fun hc => ?_); rotate_left; (focus (refine kGtr ?_)); rotate_right))
        all_goals (refine ow_cons ?_; first | (refine gTf ?_; refine kMove ?_) | refine gFf ?_ | refine gNo ?_ | refine gUn ?_ | (refine gYes ?_; refine kMove ?_) | (refine gSf (fun hc => ?_) (fun hc => ?_); rotate_left; (focus (refine kMove ?_)); rotate_right) | (refine gBf (fun hc => ?_) (fun hc => ?_); rotate_left; (focus (refine kMove ?_)); rotate_right))
        all_goals (refine ow_cons ?_; first | (refine gTt ?_; refine kMove ?_) | refine gFt ?_ | refine gNo ?_ | refine gUn ?_ | (refine gYes ?_; refine kMove ?_) | (refine gSt (fun hc => ?_) (fun hc => ?_); (focus (refine kMove ?_))) | (refine gBt (fun hc => ?_) (fun hc => ?_); (focus (refine kMove ?_))))
        all_goals (refine ow_cons ?_; first | (refine gTt ?_; refine kMove ?_) | refine gFt ?_ | refine gNo ?_ | refine gUn ?_ | (refine gYes ?_; refine kMove ?_) | (refine gSt (fun hc => ?_) (fun hc => ?_); (focus (refine kMove ?_))) | (refine gBt (fun hc => ?_) (fun hc => ?_); (focus (refine kMove ?_))))
        all_goals (refine ow_cons ?_; first | (refine gTt ?_; refine kSub ?_) | refine gFt ?_ | refine gNo ?_ | refine gUn ?_ | (refine gYes ?_; refine kSub ?_) | (refine gSt (fun hc => ?_) (fun hc => ?_); (focus (refine kSub ?_))) | (refine gBt (fun hc => ?_) (fun hc => ?_); (focus (refine kSub ?_))))
        all_goals (refine ow_cons ?_; first | (refine gTt ?_; refine kMove ?_) | refine gFt ?_ | refine gNo ?_ | refine gUn ?_ | (refine gYes ?_; refine kMove ?_) | (refine gSt (fun hc => ?_) (fun hc => ?_); (focus (refine kMove ?_))) | (refine gBt (fun hc => ?_) (fun hc => ?_); (focus (refine kMove ?_))))
        all_goals (refine ow_cons ?_; first | (refine gTt ?_; refine kMul ?_) | refine gFt ?_ | refine gNo ?_ | refine gUn ?_ | (refine gYes ?_; refine kMul ?_) | (refine gSt (fun hc => ?_) (fun hc => ?_); (focus (refine kMul ?_))) | (refine gBt (fun hc => ?_) (fun hc => ?_); (focus (refine kMul ?_))))
        all_goals (refine ow_cons ?_; first | (refine gTt ?_; refine kNeq ?_) | refine gFt ?_ | refine gNo ?_ | refine gUn ?_ | (refine gYes ?_; refine kNeq ?_) | (refine gSt (fun hc => ?_) (fun hc => ?_); (focus (refine kNeq ?_))) | (refine gBt (fun hc => ?_) (fun hc => ?_); (focus (refine kNeq ?_))))
        all_goals (refine ow_cons ?_; first | (refine gTf ?_; refine kPick ?_) | refine gFf ?_ | refine gNo ?_ | refine gUn ?_ | (refine gYes ?_; refine kPick ?_) | (refine gSf (fun hc => ?_) (fun hc => ?_); rotate_left; (focus (refine kPick ?_)); rotate_right) | (refine gBf (fun hc => ?_) (fun hc => ?_); rotate_left; (focus (refine kPick ?_)); rotate_right))
        all_goals refine wPick ?_
        all_goals refine ow_nil ?_)
    | (
        refine cw_region (id := 16) rfl ?_
        all_goals refine wAssign ?_
        all_goals refine ow_nil ?_)
    | (
        refine cw_region (id := 17) rfl ?_
        all_goals refine wMove ?_
        all_goals refine wMove ?_
        all_goals refine wSub ?_
        all_goals refine wAssign ?_
        all_goals refine ow_nil ?_)
    | (
        refine cw_region (id := 20) rfl ?_
        all_goals refine wMove ?_
        all_goals refine wNeq ?_
        all_goals refine wMove ?_
        all_goals (refine ow_cons ?_; first | (refine gTf ?_; refine kMove ?_) | refine gFf ?_ | refine gNo ?_ | refine gUn ?_ | (refine gYes ?_; refine kMove ?_) | (refine gSf (fun hc => ?_) (fun hc => ?_); rotate_left; (focus (refine kMove ?_)); rotate_right) | (refine gBf (fun hc => ?_) (fun hc => ?_); rotate_left; (focus (refine kMove ?_)); rotate_right))
        all_goals (refine ow_cons ?_; first | (refine gTf ?_; refine kNeq ?_) | refine gFf ?_ | refine gNo ?_ | refine gUn ?_ | (refine gYes ?_; refine kNeq ?_) | (refine gSf (fun hc => ?_) (fun hc => ?_); rotate_left; (focus (refine kNeq ?_)); rotate_right) | (refine gBf (fun hc => ?_) (fun hc => ?_); rotate_left; (focus (refine kNeq ?_)); rotate_right))
        all_goals refine wPick ?_
        all_goals refine wMove ?_
        all_goals (refine ow_cons ?_; first | (refine gTf ?_; refine kMove ?_) | refine gFf ?_ | refine gNo ?_ | refine gUn ?_ | (refine gYes ?_; refine kMove ?_) | (refine gSf (fun hc => ?_) (fun hc => ?_); rotate_left; (focus (refine kMove ?_)); rotate_right) | (refine gBf (fun hc => ?_) (fun hc => ?_); rotate_left; (focus (refine kMove ?_)); rotate_right))
        all_goals refine wPick ?_
        all_goals refine wMove ?_
        all_goals (refine ow_cons ?_; first | (refine gTf ?_; refine kMove ?_) | refine gFf ?_ | refine gNo ?_ | refine gUn ?_ | (refine gYes ?_; refine kMove ?_) | (refine gSf (fun hc => ?_) (fun hc => ?_); rotate_left; (focus (refine kMove ?_)); rotate_right) | (refine gBf (fun hc => ?_) (fun hc => ?_); rotate_left; (focus (refine kMove ?_)); rotate_right))
        all_goals (refine ow_cons ?_; first | (refine gTf ?_; refine kNot ?_) | refine gFf ?_ | refine gNo ?_ | refine gUn ?_ | (refine gYes ?_; refine kNot ?_) | (refine gSf (fun hc => ?_) (fun hc => ?_); rotate_left; (focus (refine kNot ?_)); rotate_right) | (refine gBf (fun hc => ?_) (fun hc => ?_); rotate_left; (focus (refine kNot ?_)); rotate_right))
        all_goals refine wPick ?_
        all_goals refine ow_nil ?_)
    | (
        refine cw_region (id := 21) rfl ?_
        all_goals refine wAssign ?_
        all_goals refine ow_nil ?_)
    | (
        refine cw_region (id := 13) rfl ?_
        all_goals refine wMove ?_
        all_goals refine wAdd ?_
        all_goals refine wAssign ?_
        all_goals refine ow_nil ?_)
    | refine cw_seq ?_
    | refine tq_n ?_
    | (refine isCW ?_; first | refine cw_region rfl ?_ | refine cw_skip ?_ | refine cw_ret ?_ | refine cw_exit ?_ | refine cw_block ?_ | refine cT ?_ | refine cF ?_ | refine cTrue ?_ | refine cFalse ?_ | refine cS (fun hc => ?_) (fun hc => ?_) | refine cB (fun hc => ?_) (fun hc => ?_))
    | refine tq_ret ?_ | refine tq_exit ?_ | refine bq_n ?_ | refine bq_ret ?_ | refine bq_same ?_ | refine bq_ne rfl ?_
    | refine ow_cons ?_ | refine ow_nil ?_
    | (refine isOpK ?_; first
      | (refine isG ?_; first | refine opk_yes rfl rfl ?_ | refine opk_no rfl rfl ?_ | refine opk_no_undef rfl rfl ?_ | refine opk_g_t rfl rfl (by omega) ?_ | refine opk_g_f rfl rfl (by omega) ?_ | refine opk_g_s rfl rfl (fun hc => ?_) (fun hc => ?_) | refine opk_g_b rfl rfl (fun hc => ?_) (fun hc => ?_))
      | refine kRd ?_
      | refine kStore ?_
      | refine kStoreA ?_
      | refine kStoreR ?_
      | (refine kIdxR (fun g hg => ?_); subst hg)
      | (refine kIdxO (fun gb go hg => ?_); subst hg)
      | refine st_alloc (fun bN => ?_)
      | refine kBox (fun bN => ?_)
      | refine kBoxA (fun bN => ?_)
      | (refine st_buildSlice rfl rfl rfl rfl (fun bN => ?_))
      | (refine st_clearR rfl selA rfl (by omega) rfl rfl rfl ?_)
      | (refine st_clearR rfl selA (by omega) (by omega) rfl rfl rfl ?_))
    | refine hw_cons ?_ | refine hw_nil ?_
    | (refine isOpS ?_; first
      | (refine os_isG ?_; first | refine os_yes rfl rfl ?_ | refine os_no rfl rfl ?_ | refine os_no_undef rfl rfl ?_ | refine os_g_t rfl rfl (by omega) ?_ | refine os_g_f rfl rfl (by omega) ?_ | refine os_g_s rfl rfl (fun hc => ?_) (fun hc => ?_) | refine os_g_b rfl rfl (fun hc => ?_) (fun hc => ?_))
      | refine sRd ?_))
  refine cw_rounds (S := fun g : Nat × Int × Int => [(0, i6 ((m : Int) + 1)), (1, i6 sz), (2, i6 t0), (6, .bool false), (7, ptr b), (9, i6 g.2.1), (10, .int .i64 (g.1 : Nat))]) (H := fun g => stR b (endsS m sz t0 (min g.1 5) g.2.2) a cap)
    (V := fun g => g.1 ≤ 6 ∧ (g.1 = 0 → g.2.2 = t0) ∧ (0 < g.1 → g.2.1 = P2 (g.1 - 1) ∧ g.2.2 = t0 + P2 (g.1 - 1))) (μ := fun g => 6 - g.1) (0, 0, t0) ⟨rfl, rfl, rfl, rfl, rfl, rfl, rfl, trivial⟩ ⟨by simp only; omega, fun _ => rfl, fun h => by simp only at h; omega⟩ (fun _ h => h) ?_
  rintro ⟨j, far, now⟩ e' ⟨hj, hn0, hn1⟩
  simp only at hj hn0 hn1
  dsimp only [upds]
  rcases Nat.lt_or_ge j 6 with hlt | hge
  · have hj5 : min j 5 = j := by omega
    rw [hj5]
    have hP := P2_bound (k := j) (by omega)
    have hf : (j = 0 ∧ now = t0) ∨ (0 < j ∧ P2 j = 2 * far ∧ now = t0 + far ∧ 325 ≤ far ∧ far ≤ 10400) := by
      rcases Nat.eq_zero_or_pos j with h | h
      · exact .inl ⟨h, hn0 h⟩
      · obtain ⟨h1, h2⟩ := hn1 h
        have h3 := P2_succ (j - 1)
        rw [Nat.sub_add_cancel h, ← h1] at h3
        have h4 := P2_bound (k := j - 1) (by omega)
        exact .inr ⟨h, h3, by omega, by omega, by omega⟩
    clear hn0 hn1
    have e1 := ends_timer m sz t0 j now
    have e2 := ends_fire1 m sz t0 j now (t0 + P2 j - 1) (by omega) (by omega)
    have e3 := ends_fire2 m sz t0 j (t0 + P2 j - 1) (t0 + P2 j) (by omega) rfl (by omega)
    have k1 := ends_ok (m := m) (size := sz) (t0 := t0) (now := now) (k := j) (by omega) (by omega) (by omega) (by omega)
    have k2 := ends_ok (m := m) (size := sz) (t0 := t0) (now := t0 + P2 j - 1) (k := j) (by omega) (by omega) (by omega) (by omega)
    have hpj : ((j + 1 : Nat) - 1) = j := by omega
    generalize hpp : P2 j = p at *
    unfold stR
    repeat' (first
      | (
          refine cw_region (id := 0) rfl ?_
          all_goals refine wAssign ?_
          all_goals refine ow_nil ?_)
      | (
          refine cw_region (id := 2) rfl ?_
          all_goals refine wAssign ?_
          all_goals refine ow_nil ?_)
      | (
          refine cw_region (id := 3) rfl ?_
          all_goals refine wMove ?_
          all_goals refine wConv ?_
          all_goals refine wRem ?_
          all_goals refine wConv ?_
          all_goals refine wAdd ?_
          all_goals refine wMove ?_
          all_goals refine wConv ?_
          all_goals refine wRem ?_
          all_goals refine wConv ?_
          all_goals refine wAdd ?_
          all_goals refine wMove ?_
          all_goals refine wConv ?_
          all_goals refine wRem ?_
          all_goals refine wConv ?_
          all_goals refine wAssign ?_
          all_goals refine wAssign ?_
          all_goals refine wAssign ?_
          all_goals refine ow_nil ?_)
      | (
          refine cw_region (id := 5) rfl ?_
          all_goals refine wAssign ?_
          all_goals refine ow_nil ?_)
      | (
          refine cw_region (id := 6) rfl ?_
          all_goals refine wMove ?_
          all_goals refine wMove ?_
          all_goals refine wLss ?_
          all_goals refine ow_nil ?_)
      | (
          refine cw_region (id := 9) rfl ?_
          all_goals refine wAssign ?_
          all_goals refine ow_nil ?_)
      | (
          refine cw_region (id := 7) rfl ?_
          all_goals refine wMove ?_
          all_goals refine wAdd ?_
          all_goals refine wAssign ?_
          all_goals refine ow_nil ?_)
      | (
          refine cw_region (id := 10) rfl ?_
          all_goals refine wAssign ?_
          all_goals refine ow_nil ?_)
      | (
          refine cw_region (id := 11) rfl ?_
          all_goals refine wAssign ?_
          all_goals refine ow_nil ?_)
      | (
          refine cw_region (id := 12) rfl ?_
          all_goals refine wMove ?_
          all_goals refine wLss ?_
          all_goals refine ow_nil ?_)
      | (
          refine cw_region (id := 14) rfl ?_
          all_goals refine wMove ?_
          all_goals (refine ow_cons ?_; (refine st_call (av := [_]) rfl (timerAs b (endsS m sz t0 j now) a cap k1 e1) (.cons selA (.cons selA (.nil _))) ?_; rintro v L' ⟨rfl, rfl⟩))
          all_goals refine wMove ?_
          all_goals refine wExtract ?_
          all_goals refine wExtract ?_
          all_goals refine wAssign ?_
          all_goals refine wAssign ?_
          all_goals refine ow_nil ?_)
      | (
          refine cw_region (id := 15) rfl ?_
          all_goals refine wMove ?_
          all_goals refine wNot ?_
          all_goals refine wMove ?_
          all_goals (refine ow_cons ?_; first | (refine gTf ?_; refine kMove ?_) | refine gFf ?_ | refine gNo ?_ | refine gUn ?_ | (refine gYes ?_; refine kMove ?_) | (refine gSf (fun hc => ?_) (fun hc => ?_); rotate_left; (focus (refine kMove ?_)); rotate_right) | (refine gBf (fun hc => ?_) (fun hc => ?_); rotate_left; (focus (refine kMove ?_)); rotate_right))
          all_goals (refine ow_cons ?_; first | (refine gTf ?_; refine kMove ?_) | refine gFf ?_ | refine gNo ?_ | refine gUn ?_ | (refine gYes ?_; refine kMove ?_) | (refine gSf (fun hc => ?_) (fun hc => ?_); rotate_left; (focus (refine kMove ?_)); rotate_right) | (refine gBf (fun hc => ?_) (fun hc => ?_); rotate_left; (focus (refine kMove ?_)); rotate_right))
          all_goals (refine ow_cons ?_; first | (refine gTf ?_; refine kLeq ?_) | refine gFf ?_ | refine gNo ?_ | refine gUn ?_ | (refine gYes ?_; refine kLeq ?_) | (refine gSf (fun hc => ?_) (fun hc => ?_); rotate_left; (focus (refine kLeq ?_)); rotate_right) | (refine gBf (fun hc => ?_) (fun hc => ?_); rotate_left; (focus (refine kLeq ?_)); rotate_right))
          all_goals refine wPick ?_
          all_goals refine wMove ?_
          all_goals (refine ow_cons ?_; first | (refine gTf ?_; refine kMove ?_) | refine gFf ?_ | refine gNo ?_ | refine gUn ?_ | (refine gYes ?_; refine kMove ?_) | (refine gSf (fun hc => ?_) (fun hc => ?_); rotate_left; (focus (refine kMove ?_)); rotate_right) | (refine gBf (fun hc => ?_) (fun hc => ?_); rotate_left; (focus (refine kMove ?_)); rotate_right))
          all_goals (refine ow_cons ?_; first | (refine gTf ?_; refine kGtr ?_) | refine gFf ?_ | refine gNo ?_ | refine gUn ?_ | (refine gYes ?_; refine kGtr ?_) | (refine gSf (fun hc => ?_) (fun hc => ?_); rotate_left; (focus (refine kGtr ?_)); rotate_right) | (refine gBf (fun hc => ?_) (fun hc => ?_); rotate_left; (focus (refine kGtr ?_)); rotate_right))
          all_goals (refine ow_cons ?_; first | (refine gTf ?_; refine kMove ?_) | refine gFf ?_ | refine gNo ?_ | refine gUn ?_ | (refine gYes ?_; refine kMove ?_) | (refine gSf (fun hc => ?_) (fun hc => ?_); rotate_left; (focus (refine kMove ?_)); rotate_right) | (refine gBf (fun hc => ?_) (fun hc => ?_); rotate_left; (focus (refine kMove ?_)); rotate_right))
          all_goals (refine ow_cons ?_; first | (refine gTt ?_; refine kMove ?_) | refine gFt ?_ | refine gNo ?_ | refine gUn ?_ | (refine gYes ?_; refine kMove ?_) | (refine gSt (fun hc => ?_) (fun hc => ?_); (focus (refine kMove ?_))) | (refine gBt (fun hc => ?_) (fun hc => ?_); (focus (refine kMove ?_))))
          all_goals (refine ow_cons ?_; first | (refine gTt ?_; refine kMove ?_) | refine gFt ?_ | refine gNo ?_ | refine gUn ?_ | (refine gYes ?_; refine kMove ?_) | (refine gSt (fun hc => ?_) (fun hc => ?_); (focus (refine kMove ?_))) | (refine gBt (fun hc => ?_) (fun hc => ?_); (focus (refine kMove ?_))))
          all_goals (refine ow_cons ?_; first | (refine gTt ?_; refine kSub ?_) | refine gFt ?_ | refine gNo ?_ | refine gUn ?_ | (refine gYes ?_; refine kSub ?_) | (refine gSt (fun hc => ?_) (fun hc => ?_); (focus (refine kSub ?_))) | (refine gBt (fun hc => ?_) (fun hc => ?_); (focus (refine kSub ?_))))
          all_goals (refine ow_cons ?_; first | (refine gTt ?_; refine kMove ?_) | refine gFt ?_ | refine gNo ?_ | refine gUn ?_ | (refine gYes ?_; refine kMove ?_) | (refine gSt (fun hc => ?_) (fun hc => ?_); (focus (refine kMove ?_))) | (refine gBt (fun hc => ?_) (fun hc => ?_); (focus (refine kMove ?_))))
          all_goals (refine ow_cons ?_; first | (refine gTt ?_; refine kMul ?_) | refine gFt ?_ | refine gNo ?_ | refine gUn ?_ | (refine gYes ?_; refine kMul ?_) | (refine gSt (fun hc => ?_) (fun hc => ?_); (focus (refine kMul ?_))) | (refine gBt (fun hc => ?_) (fun hc => ?_); (focus (refine kMul ?_))))
          all_goals (refine ow_cons ?_; first | (refine gTt ?_; refine kNeq ?_) | refine gFt ?_ | refine gNo ?_ | refine gUn ?_ | (refine gYes ?_; refine kNeq ?_) | (refine gSt (fun hc => ?_) (fun hc => ?_); (focus (refine kNeq ?_))) | (refine gBt (fun hc => ?_) (fun hc => ?_); (focus (refine kNeq ?_))))
          all_goals (refine ow_cons ?_; first | (refine gTf ?_; refine kPick ?_) | refine gFf ?_ | refine gNo ?_ | refine gUn ?_ | (refine gYes ?_; refine kPick ?_) | (refine gSf (fun hc => ?_) (fun hc => ?_); rotate_left; (focus (refine kPick ?_)); rotate_right) | (refine gBf (fun hc => ?_) (fun hc => ?_); rotate_left; (focus (refine kPick ?_)); rotate_right))
          all_goals refine wPick ?_
          all_goals refine ow_nil ?_)
      | (
          refine cw_region (id := 16) rfl ?_
          all_goals refine wAssign ?_
          all_goals refine ow_nil ?_)
      | (
          refine cw_region (id := 17) rfl ?_
          all_goals refine wMove ?_
          all_goals refine wMove ?_
          all_goals refine wSub ?_
          all_goals refine wAssign ?_
          all_goals refine ow_nil ?_)
      | (
          refine cw_region (id := 18) rfl ?_
          all_goals refine wMove ?_
          all_goals refine wMove ?_
          all_goals refine wSub ?_
          all_goals (refine ow_cons ?_; (refine st_call (av := [_, _]) rfl (fireAs b a cap (endsS m sz t0 j now) _ _ _ _ k1 e2) (.cons selA (.cons selA (.nil _))) ?_; rintro v L' ⟨a3, c3, rfl, rfl⟩))
          all_goals refine wMove ?_
          all_goals refine wExtract ?_
          all_goals refine wExtract ?_
          all_goals refine wExtract ?_
          all_goals refine wAssign ?_
          all_goals refine wAssign ?_
          all_goals refine wAssign ?_
          all_goals refine ow_nil ?_)
      | (
          refine cw_region (id := 19) rfl ?_
          all_goals refine wMove ?_
          all_goals refine wMove ?_
          all_goals (refine ow_cons ?_; (refine st_call (av := [_, _]) rfl (fireAs b a cap (endsS m sz t0 j (t0 + p - 1)) _ _ _ _ k2 e3) (.cons selA (.cons selA (.nil _))) ?_; rintro v L' ⟨a4, c4, rfl, rfl⟩))
          all_goals refine wMove ?_
          all_goals refine wExtract ?_
          all_goals refine wExtract ?_
          all_goals refine wExtract ?_
          all_goals refine wAssign ?_
          all_goals refine wAssign ?_
          all_goals refine wAssign ?_
          all_goals refine ow_nil ?_)
      | (
          refine cw_region (id := 20) rfl ?_
          all_goals refine wMove ?_
          all_goals refine wNeq ?_
          all_goals refine wMove ?_
          all_goals (refine ow_cons ?_; first | (refine gTf ?_; refine kMove ?_) | refine gFf ?_ | refine gNo ?_ | refine gUn ?_ | (refine gYes ?_; refine kMove ?_) | (refine gSf (fun hc => ?_) (fun hc => ?_); rotate_left; (focus (refine kMove ?_)); rotate_right) | (refine gBf (fun hc => ?_) (fun hc => ?_); rotate_left; (focus (refine kMove ?_)); rotate_right))
          all_goals (refine ow_cons ?_; first | (refine gTf ?_; refine kNeq ?_) | refine gFf ?_ | refine gNo ?_ | refine gUn ?_ | (refine gYes ?_; refine kNeq ?_) | (refine gSf (fun hc => ?_) (fun hc => ?_); rotate_left; (focus (refine kNeq ?_)); rotate_right) | (refine gBf (fun hc => ?_) (fun hc => ?_); rotate_left; (focus (refine kNeq ?_)); rotate_right))
          all_goals refine wPick ?_
          all_goals refine wMove ?_
          all_goals (refine ow_cons ?_; first | (refine gTf ?_; refine kMove ?_) | refine gFf ?_ | refine gNo ?_ | refine gUn ?_ | (refine gYes ?_; refine kMove ?_) | (refine gSf (fun hc => ?_) (fun hc => ?_); rotate_left; (focus (refine kMove ?_)); rotate_right) | (refine gBf (fun hc => ?_) (fun hc => ?_); rotate_left; (focus (refine kMove ?_)); rotate_right))
          all_goals refine wPick ?_
          all_goals refine wMove ?_
          all_goals (refine ow_cons ?_; first | (refine gTf ?_; refine kMove ?_) | refine gFf ?_ | refine gNo ?_ | refine gUn ?_ | (refine gYes ?_; refine kMove ?_) | (refine gSf (fun hc => ?_) (fun hc => ?_); rotate_left; (focus (refine kMove ?_)); rotate_right) | (refine gBf (fun hc => ?_) (fun hc => ?_); rotate_left; (focus (refine kMove ?_)); rotate_right))
          all_goals (refine ow_cons ?_; first | (refine gTf ?_; refine kNot ?_) | refine gFf ?_ | refine gNo ?_ | refine gUn ?_ | (refine gYes ?_; refine kNot ?_) | (refine gSf (fun hc => ?_) (fun hc => ?_); rotate_left; (focus (refine kNot ?_)); rotate_right) | (refine gBf (fun hc => ?_) (fun hc => ?_); rotate_left; (focus (refine kNot ?_)); rotate_right))
          all_goals refine wPick ?_
          all_goals refine ow_nil ?_)
      | (
          refine cw_region (id := 21) rfl ?_
          all_goals refine wAssign ?_
          all_goals refine ow_nil ?_)
      | (
          refine cw_region (id := 13) rfl ?_
          all_goals refine wMove ?_
          all_goals refine wAdd ?_
          all_goals refine wAssign ?_
          all_goals refine ow_nil ?_)
      | (
          refine cw_region (id := 22) rfl ?_
          all_goals refine wMove ?_
          all_goals (refine ow_cons ?_; (refine st_call (av := [_]) rfl (timerAs b (endsS m sz t0 j now) a cap k1 e1) (.cons selA (.cons selA (.nil _))) ?_; rintro v L' ⟨rfl, rfl⟩))
          all_goals refine wMove ?_
          all_goals refine wExtract ?_
          all_goals refine wExtract ?_
          all_goals refine wAssign ?_
          all_goals refine wAssign ?_
          all_goals refine ow_nil ?_)
      | (
          refine cw_region (id := 24) rfl ?_
          all_goals refine wMove ?_
          all_goals (refine ow_cons ?_; (refine st_call (av := [_]) rfl (timerAs b (endsS m sz t0 j now) a cap k1 e1) (.cons selA (.cons selA (.nil _))) ?_; rintro v L' ⟨rfl, rfl⟩))
          all_goals refine wMove ?_
          all_goals refine wExtract ?_
          all_goals refine wExtract ?_
          all_goals refine wAssign ?_
          all_goals refine wAssign ?_
          all_goals refine ow_nil ?_)
      | refine cw_seq ?_
      | refine tq_n ?_
      | (refine isCW ?_; first | refine cw_region rfl ?_ | refine cw_skip ?_ | refine cw_ret ?_ | refine cw_exit ?_ | refine cw_block ?_ | refine cT ?_ | refine cF ?_ | refine cTrue ?_ | refine cFalse ?_ | refine cS (fun hc => ?_) (fun hc => ?_) | refine cB (fun hc => ?_) (fun hc => ?_))
      | refine tq_ret ?_ | refine tq_exit ?_ | refine bq_n ?_ | refine bq_ret ?_ | refine bq_same ?_ | refine bq_ne rfl ?_
      | refine ow_cons ?_ | refine ow_nil ?_
      | (refine isOpK ?_; first
        | (refine isG ?_; first | refine opk_yes rfl rfl ?_ | refine opk_no rfl rfl ?_ | refine opk_no_undef rfl rfl ?_ | refine opk_g_t rfl rfl (by omega) ?_ | refine opk_g_f rfl rfl (by omega) ?_ | refine opk_g_s rfl rfl (fun hc => ?_) (fun hc => ?_) | refine opk_g_b rfl rfl (fun hc => ?_) (fun hc => ?_))
        | refine kRd ?_
        | refine kStore ?_
        | refine kStoreA ?_
        | refine kStoreR ?_
        | (refine kIdxR (fun g hg => ?_); subst hg)
        | (refine kIdxO (fun gb go hg => ?_); subst hg)
        | refine st_alloc (fun bN => ?_)
        | refine kBox (fun bN => ?_)
        | refine kBoxA (fun bN => ?_)
        | (refine st_buildSlice rfl rfl rfl rfl (fun bN => ?_))
        | (refine st_clearR rfl selA rfl (by omega) rfl rfl rfl ?_)
        | (refine st_clearR rfl selA (by omega) (by omega) rfl rfl rfl ?_)
        | (refine st_call (av := [_]) rfl (timerAs b (endsS m sz t0 j now) a cap k1 e1) (.cons selA (.cons selA (.nil _))) ?_; rintro v L' ⟨rfl, rfl⟩))
      | refine hw_cons ?_ | refine hw_nil ?_
      | (refine isOpS ?_; first
        | (refine os_isG ?_; first | refine os_yes rfl rfl ?_ | refine os_no rfl rfl ?_ | refine os_no_undef rfl rfl ?_ | refine os_g_t rfl rfl (by omega) ?_ | refine os_g_f rfl rfl (by omega) ?_ | refine os_g_s rfl rfl (fun hc => ?_) (fun hc => ?_) | refine os_g_b rfl rfl (fun hc => ?_) (fun hc => ?_))
        | refine sRd ?_))
    all_goals exact lp_end (j + 1, t0 + p - t0, t0 + p) ⟨rfl, rfl, rfl, rfl, rfl, rfl, rfl, trivial⟩ ⟨by simp only; omega, fun h => by simp only at h; omega, fun _ => by simp only [hpj, hpp]; exact ⟨by omega, trivial⟩⟩ (by simp only; omega) (fun _ h => pick2 h selA selA)
  have hj6 : j = 6 := by omega
  subst hj6
  obtain ⟨h1, h2⟩ := hn1 (by decide)
  have h5 : min 6 5 = 5 := rfl
  have e1 := ends_timer m sz t0 5 now
  have k1 := ends_ok (m := m) (size := sz) (t0 := t0) (now := now) (k := 5) (by omega) (by omega) (by rw [h2, P2_five]; omega) (by omega)
  obtain ⟨s2, l, he, hl, hw, hwin⟩ := ends_acked m sz t0 now (t0 + P2 5) hm19 hsz1 (by rw [h2, P2_five]; omega)
  have ok2 := acked_ok k1 [⟨0, m⟩] 0 (t0 + P2 5)
  rw [he] at ok2
  have hfl := give_flight ok2 hw
  have htm : s2.timer = (0, false, false) := by unfold St.timer; rw [hw]
  have hmm : (m : Int) + 1 - 1 = m := by omega
  have hmul : 0 ≤ ((m : Int) + 1) * sz ∧ ((m : Int) + 1) * sz ≤ 20 * 1000 := ⟨Int.mul_nonneg (by omega) (by omega), Int.mul_le_mul (by omega) hsz1.2 (by omega) (by omega)⟩
  have hr1 : 0 ≤ s2.window ∧ s2.window ≤ 4611686018427387904 := by rw [hwin]; omega
  have hr2 : 0 ≤ s2.flight ∧ s2.flight ≤ 4611686018427387904 := by rw [hfl]; decide
  rw [h5]
  rw [P2_five] at *
  unfold stR
  repeat' (first
    | (
        refine cw_region (id := 0) rfl ?_
        all_goals refine wAssign ?_
        all_goals refine ow_nil ?_)
    | (
        refine cw_region (id := 2) rfl ?_
        all_goals refine wAssign ?_
        all_goals refine ow_nil ?_)
    | (
        refine cw_region (id := 3) rfl ?_
        all_goals refine wMove ?_
        all_goals refine wConv ?_
        all_goals refine wRem ?_
        all_goals refine wConv ?_
        all_goals refine wAdd ?_
        all_goals refine wMove ?_
        all_goals refine wConv ?_
        all_goals refine wRem ?_
        all_goals refine wConv ?_
        all_goals refine wAdd ?_
        all_goals refine wMove ?_
        all_goals refine wConv ?_
        all_goals refine wRem ?_
        all_goals refine wConv ?_
        all_goals refine wAssign ?_
        all_goals refine wAssign ?_
        all_goals refine wAssign ?_
        all_goals refine ow_nil ?_)
    | (
        refine cw_region (id := 5) rfl ?_
        all_goals refine wAssign ?_
        all_goals refine ow_nil ?_)
    | (
        refine cw_region (id := 6) rfl ?_
        all_goals refine wMove ?_
        all_goals refine wMove ?_
        all_goals refine wLss ?_
        all_goals refine ow_nil ?_)
    | (
        refine cw_region (id := 9) rfl ?_
        all_goals refine wAssign ?_
        all_goals refine ow_nil ?_)
    | (
        refine cw_region (id := 7) rfl ?_
        all_goals refine wMove ?_
        all_goals refine wAdd ?_
        all_goals refine wAssign ?_
        all_goals refine ow_nil ?_)
    | (
        refine cw_region (id := 10) rfl ?_
        all_goals refine wAssign ?_
        all_goals refine ow_nil ?_)
    | (
        refine cw_region (id := 11) rfl ?_
        all_goals refine wAssign ?_
        all_goals refine ow_nil ?_)
    | (
        refine cw_region (id := 12) rfl ?_
        all_goals refine wMove ?_
        all_goals refine wLss ?_
        all_goals refine ow_nil ?_)
    | (
        refine cw_region (id := 15) rfl ?_
        all_goals refine wMove ?_
        all_goals refine wNot ?_
        all_goals refine wMove ?_
        all_goals (refine ow_cons ?_; first | (refine gTf ?_; refine kMove ?_) | refine gFf ?_ | refine gNo ?_ | refine gUn ?_ | (refine gYes ?_; refine kMove ?_) | (refine gSf (fun hc => ?_) (fun hc => ?_); rotate_left; (focus (refine kMove ?_)); rotate_right) | (refine gBf (fun hc => ?_) (fun hc => ?_); rotate_left; (focus (refine kMove ?_)); rotate_right))
        all_goals (refine ow_cons ?_; first | (refine gTf ?_; refine kMove ?_) | refine gFf ?_ | refine gNo ?_ | refine gUn ?_ | (refine gYes ?_; refine kMove ?_) | (refine gSf (fun hc => ?_) (fun hc => ?_); rotate_left; (focus (refine kMove ?_)); rotate_right) | (refine gBf (fun hc => ?_) (fun hc => ?_); rotate_left; (focus (refine kMove ?_)); rotate_right))
        all_goals (refine ow_cons ?_; first | (refine gTf ?_; refine kLeq ?_) | refine gFf ?_ | refine gNo ?_ | refine gUn ?_ | (refine gYes ?_; refine kLeq ?_) | (refine gSf (fun hc => ?_) (fun hc => ?_); rotate_left; (focus (refine kLeq ?_)); rotate_right) | (refine gBf (fun hc => ?_) (fun hc => ?_); rotate_left; (focus (refine kLeq ?_)); rotate_right))
        all_goals refine wPick ?_
        all_goals refine wMove ?_
        all_goals (refine ow_cons ?_; first | (refine gTf ?_; refine kMove ?_) | refine gFf ?_ | refine gNo ?_ | refine gUn ?_ | (refine gYes ?_; refine kMove ?_) | (refine gSf (fun hc => ?_) (fun hc => ?_); rotate_left; (focus (refine kMove ?_)); rotate_right) | (refine gBf (fun hc => ?_) (fun hc => ?_); rotate_left; (focus (refine kMove ?_)); rotate_right))
        all_goals (refine ow_cons ?_; first | (refine gTf ?_; refine kGtr ?_) | refine gFf ?_ | refine gNo ?_ | refine gUn ?_ | (refine gYes ?_; refine kGtr ?_) | (refine gSf (fun hc => ?_) (fun hc => ?_); rotate_left; (focus (refine kGtr ?_)); rotate_right) | (refine gBf (fun hc => ?_) (fun hc => ?_); rotate_left; (focus (refine kGtr ?_)); rotate_right))
        all_goals (refine ow_cons ?_; first | (refine gTf ?_; refine kMove ?_) | refine gFf ?_ | refine gNo ?_ | refine gUn ?_ | (refine gYes ?_; refine kMove ?_) | (refine gSf (fun hc => ?_) (fun hc => ?_); rotate_left; (focus (refine kMove ?_)); rotate_right) | (refine gBf (fun hc => ?_) (fun hc => ?_); rotate_left; (focus (refine kMove ?_)); rotate_right))
        all_goals (refine ow_cons ?_; first | (refine gTt ?_; refine kMove ?_) | refine gFt ?_ | refine gNo ?_ | refine gUn ?_ | (refine gYes ?_; refine kMove ?_) | (refine gSt (fun hc => ?_) (fun hc => ?_); (focus (refine kMove ?_))) | (refine gBt (fun hc => ?_) (fun hc => ?_); (focus (refine kMove ?_))))
        all_goals (refine ow_cons ?_; first | (refine gTt ?_; refine kMove ?_) | refine gFt ?_ | refine gNo ?_ | refine gUn ?_ | (refine gYes ?_; refine kMove ?_) | (refine gSt (fun hc => ?_) (fun hc => ?_); (focus (refine kMove ?_))) | (refine gBt (fun hc => ?_) (fun hc => ?_); (focus (refine kMove ?_))))
        all_goals (refine ow_cons ?_; first | (refine gTt ?_; refine kSub ?_) | refine gFt ?_ | refine gNo ?_ | refine gUn ?_ | (refine gYes ?_; refine kSub ?_) | (refine gSt (fun hc => ?_) (fun hc => ?_); (focus (refine kSub ?_))) | (refine gBt (fun hc => ?_) (fun hc => ?_); (focus (refine kSub ?_))))
        all_goals (refine ow_cons ?_; first | (refine gTt ?_; refine kMove ?_) | refine gFt ?_ | refine gNo ?_ | refine gUn ?_ | (refine gYes ?_; refine kMove ?_) | (refine gSt (fun hc => ?_) (fun hc => ?_); (focus (refine kMove ?_))) | (refine gBt (fun hc => ?_) (fun hc => ?_); (focus (refine kMove ?_))))
        all_goals (refine ow_cons ?_; first | (refine gTt ?_; refine kMul ?_) | refine gFt ?_ | refine gNo ?_ | refine gUn ?_ | (refine gYes ?_; refine kMul ?_) | (refine gSt (fun hc => ?_) (fun hc => ?_); (focus (refine kMul ?_))) | (refine gBt (fun hc => ?_) (fun hc => ?_); (focus (refine kMul ?_))))
        all_goals (refine ow_cons ?_; first | (refine gTt ?_; refine kNeq ?_) | refine gFt ?_ | refine gNo ?_ | refine gUn ?_ | (refine gYes ?_; refine kNeq ?_) | (refine gSt (fun hc => ?_) (fun hc => ?_); (focus (refine kNeq ?_))) | (refine gBt (fun hc => ?_) (fun hc => ?_); (focus (refine kNeq ?_))))
        all_goals (refine ow_cons ?_; first | (refine gTf ?_; refine kPick ?_) | refine gFf ?_ | refine gNo ?_ | refine gUn ?_ | (refine gYes ?_; refine kPick ?_) | (refine gSf (fun hc => ?_) (fun hc => ?_); rotate_left; (focus (refine kPick ?_)); rotate_right) | (refine gBf (fun hc => ?_) (fun hc => ?_); rotate_left; (focus (refine kPick ?_)); rotate_right))
        all_goals refine wPick ?_
        all_goals refine ow_nil ?_)
    | (
        refine cw_region (id := 16) rfl ?_
        all_goals refine wAssign ?_
        all_goals refine ow_nil ?_)
    | (
        refine cw_region (id := 17) rfl ?_
        all_goals refine wMove ?_
        all_goals refine wMove ?_
        all_goals refine wSub ?_
        all_goals refine wAssign ?_
        all_goals refine ow_nil ?_)
    | (
        refine cw_region (id := 20) rfl ?_
        all_goals refine wMove ?_
        all_goals refine wNeq ?_
        all_goals refine wMove ?_
        all_goals (refine ow_cons ?_; first | (refine gTf ?_; refine kMove ?_) | refine gFf ?_ | refine gNo ?_ | refine gUn ?_ | (refine gYes ?_; refine kMove ?_) | (refine gSf (fun hc => ?_) (fun hc => ?_); rotate_left; (focus (refine kMove ?_)); rotate_right) | (refine gBf (fun hc => ?_) (fun hc => ?_); rotate_left; (focus (refine kMove ?_)); rotate_right))
        all_goals (refine ow_cons ?_; first | (refine gTf ?_; refine kNeq ?_) | refine gFf ?_ | refine gNo ?_ | refine gUn ?_ | (refine gYes ?_; refine kNeq ?_) | (refine gSf (fun hc => ?_) (fun hc => ?_); rotate_left; (focus (refine kNeq ?_)); rotate_right) | (refine gBf (fun hc => ?_) (fun hc => ?_); rotate_left; (focus (refine kNeq ?_)); rotate_right))
        all_goals refine wPick ?_
        all_goals refine wMove ?_
        all_goals (refine ow_cons ?_; first | (refine gTf ?_; refine kMove ?_) | refine gFf ?_ | refine gNo ?_ | refine gUn ?_ | (refine gYes ?_; refine kMove ?_) | (refine gSf (fun hc => ?_) (fun hc => ?_); rotate_left; (focus (refine kMove ?_)); rotate_right) | (refine gBf (fun hc => ?_) (fun hc => ?_); rotate_left; (focus (refine kMove ?_)); rotate_right))
        all_goals refine wPick ?_
        all_goals refine wMove ?_
        all_goals (refine ow_cons ?_; first | (refine gTf ?_; refine kMove ?_) | refine gFf ?_ | refine gNo ?_ | refine gUn ?_ | (refine gYes ?_; refine kMove ?_) | (refine gSf (fun hc => ?_) (fun hc => ?_); rotate_left; (focus (refine kMove ?_)); rotate_right) | (refine gBf (fun hc => ?_) (fun hc => ?_); rotate_left; (focus (refine kMove ?_)); rotate_right))
        all_goals (refine ow_cons ?_; first | (refine gTf ?_; refine kNot ?_) | refine gFf ?_ | refine gNo ?_ | refine gUn ?_ | (refine gYes ?_; refine kNot ?_) | (refine gSf (fun hc => ?_) (fun hc => ?_); rotate_left; (focus (refine kNot ?_)); rotate_right) | (refine gBf (fun hc => ?_) (fun hc => ?_); rotate_left; (focus (refine kNot ?_)); rotate_right))
        all_goals refine wPick ?_
        all_goals refine ow_nil ?_)
    | (
        refine cw_region (id := 21) rfl ?_
        all_goals refine wAssign ?_
        all_goals refine ow_nil ?_)
    | (
        refine cw_region (id := 13) rfl ?_
        all_goals refine wMove ?_
        all_goals refine wAdd ?_
        all_goals refine wAssign ?_
        all_goals refine ow_nil ?_)
    | (
        refine cw_region (id := 22) rfl ?_
        all_goals refine wMove ?_
        all_goals (refine ow_cons ?_; (refine st_call (av := [_]) rfl (timerAs b (endsS m sz t0 5 now) a cap k1 e1) (.cons selA (.cons selA (.nil _))) ?_; rintro v L' ⟨rfl, rfl⟩))
        all_goals refine wMove ?_
        all_goals refine wExtract ?_
        all_goals refine wExtract ?_
        all_goals refine wAssign ?_
        all_goals refine wAssign ?_
        all_goals refine ow_nil ?_)
    | (
        refine cw_region (id := 23) rfl ?_
        all_goals refine wMove ?_
        all_goals refine wMove ?_
        all_goals refine wSub ?_
        all_goals (refine ow_cons ?_; refine st_rd (rd_build (vs := [.int _ _, .int _ _]) rfl) ?_)
        all_goals (refine ow_cons ?_; refine st_buildSlice (vs := [.int _ _, .int _ _]) rfl rfl rfl rfl (fun bN => ?_))
        all_goals refine wMove ?_
        all_goals (refine ow_cons ?_; (refine OpK.heap ?_ (fun w h => tr_blk_ro (cs := [i6 0, i6 ((m : Int) + 1 - 1)]) tSp [⟨0, m⟩] (by rw [hmm]; rfl) selA h); refine st_call (av := [_, _, _, _]) rfl (ackedAs b bN a cap _ _ [⟨0, m⟩] _ _ _ k1 (by simp) he) (.cons selA (.cons selA (.cons selA (.nil _)))) ?_; rintro v L' ⟨a1, c1, a2, c2, rfl, rfl⟩))
        all_goals refine wMove ?_
        all_goals refine wExtract ?_
        all_goals refine wExtract ?_
        all_goals refine wExtract ?_
        all_goals refine wAssign ?_
        all_goals refine wAssign ?_
        all_goals refine wAssign ?_
        all_goals refine ow_nil ?_)
    | (
        refine cw_region (id := 24) rfl ?_
        all_goals refine wMove ?_
        all_goals (refine ow_cons ?_; (refine st_call (av := [_]) rfl (timerAs b s2 a cap ok2 htm) (.cons selA (.cons selA (.nil _))) ?_; rintro v L' ⟨rfl, rfl⟩))
        all_goals refine wMove ?_
        all_goals refine wExtract ?_
        all_goals refine wExtract ?_
        all_goals refine wAssign ?_
        all_goals refine wAssign ?_
        all_goals refine ow_nil ?_)
    | (
        refine cw_region (id := 25) rfl ?_
        all_goals refine wMove ?_
        all_goals refine wEql ?_
        all_goals refine wMove ?_
        all_goals (refine ow_cons ?_; first | (refine gTt ?_; refine kMove ?_) | refine gFt ?_ | refine gNo ?_ | refine gUn ?_ | (refine gYes ?_; refine kMove ?_) | (refine gSt (fun hc => ?_) (fun hc => ?_); (focus (refine kMove ?_))) | (refine gBt (fun hc => ?_) (fun hc => ?_); (focus (refine kMove ?_))))
        all_goals (refine ow_cons ?_; first | (refine gTt ?_; refine kLen ?_) | refine gFt ?_ | refine gNo ?_ | refine gUn ?_ | (refine gYes ?_; refine kLen ?_) | (refine gSt (fun hc => ?_) (fun hc => ?_); (focus (refine kLen ?_))) | (refine gBt (fun hc => ?_) (fun hc => ?_); (focus (refine kLen ?_))))
        all_goals (refine ow_cons ?_; first | (refine gTt ?_; refine kMove ?_) | refine gFt ?_ | refine gNo ?_ | refine gUn ?_ | (refine gYes ?_; refine kMove ?_) | (refine gSt (fun hc => ?_) (fun hc => ?_); (focus (refine kMove ?_))) | (refine gBt (fun hc => ?_) (fun hc => ?_); (focus (refine kMove ?_))))
        all_goals (refine ow_cons ?_; first | (refine gTt ?_; refine kEql ?_) | refine gFt ?_ | refine gNo ?_ | refine gUn ?_ | (refine gYes ?_; refine kEql ?_) | (refine gSt (fun hc => ?_) (fun hc => ?_); (focus (refine kEql ?_))) | (refine gBt (fun hc => ?_) (fun hc => ?_); (focus (refine kEql ?_))))
        all_goals refine wPick ?_
        all_goals refine wMove ?_
        all_goals (refine ow_cons ?_; first | (refine gTt ?_; refine kMove ?_) | refine gFt ?_ | refine gNo ?_ | refine gUn ?_ | (refine gYes ?_; refine kMove ?_) | (refine gSt (fun hc => ?_) (fun hc => ?_); (focus (refine kMove ?_))) | (refine gBt (fun hc => ?_) (fun hc => ?_); (focus (refine kMove ?_))))
        all_goals (refine ow_cons ?_; first | (refine gTt ?_; refine kLen ?_) | refine gFt ?_ | refine gNo ?_ | refine gUn ?_ | (refine gYes ?_; refine kLen ?_) | (refine gSt (fun hc => ?_) (fun hc => ?_); (focus (refine kLen ?_))) | (refine gBt (fun hc => ?_) (fun hc => ?_); (focus (refine kLen ?_))))
        all_goals (refine ow_cons ?_; first | (refine gTt ?_; refine kEql ?_) | refine gFt ?_ | refine gNo ?_ | refine gUn ?_ | (refine gYes ?_; refine kEql ?_) | (refine gSt (fun hc => ?_) (fun hc => ?_); (focus (refine kEql ?_))) | (refine gBt (fun hc => ?_) (fun hc => ?_); (focus (refine kEql ?_))))
        all_goals refine wPick ?_
        all_goals refine wMove ?_
        all_goals (refine ow_cons ?_; first | (refine gTt ?_; refine kMove ?_) | refine gFt ?_ | refine gNo ?_ | refine gUn ?_ | (refine gYes ?_; refine kMove ?_) | (refine gSt (fun hc => ?_) (fun hc => ?_); (focus (refine kMove ?_))) | (refine gBt (fun hc => ?_) (fun hc => ?_); (focus (refine kMove ?_))))
        all_goals (refine ow_cons ?_; first | (refine gTt ?_; refine kNot ?_) | refine gFt ?_ | refine gNo ?_ | refine gUn ?_ | (refine gYes ?_; refine kNot ?_) | (refine gSt (fun hc => ?_) (fun hc => ?_); (focus (refine kNot ?_))) | (refine gBt (fun hc => ?_) (fun hc => ?_); (focus (refine kNot ?_))))
        all_goals refine wPick ?_
        all_goals refine wMove ?_
        all_goals (refine ow_cons ?_; first | (refine gTt ?_; refine kMove ?_) | refine gFt ?_ | refine gNo ?_ | refine gUn ?_ | (refine gYes ?_; refine kMove ?_) | (refine gSt (fun hc => ?_) (fun hc => ?_); (focus (refine kMove ?_))) | (refine gBt (fun hc => ?_) (fun hc => ?_); (focus (refine kMove ?_))))
        all_goals (refine ow_cons ?_; first | (refine gTt ?_; (refine st_call (av := [_]) rfl (flight_spec b s2 a cap) (.cons selA (.nil _)) ?_; rintro v L' ⟨rfl, rfl⟩)) | refine gFt ?_ | refine gNo ?_ | refine gUn ?_ | (refine gYes ?_; (refine st_call (av := [_]) rfl (flight_spec b s2 a cap) (.cons selA (.nil _)) ?_; rintro v L' ⟨rfl, rfl⟩)) | (refine gSt (fun hc => ?_) (fun hc => ?_); (focus ((refine st_call (av := [_]) rfl (flight_spec b s2 a cap) (.cons selA (.nil _)) ?_; rintro v L' ⟨rfl, rfl⟩)))) | (refine gBt (fun hc => ?_) (fun hc => ?_); (focus ((refine st_call (av := [_]) rfl (flight_spec b s2 a cap) (.cons selA (.nil _)) ?_; rintro v L' ⟨rfl, rfl⟩)))))
        all_goals (refine ow_cons ?_; first | (refine gTt ?_; refine kEql ?_) | refine gFt ?_ | refine gNo ?_ | refine gUn ?_ | (refine gYes ?_; refine kEql ?_) | (refine gSt (fun hc => ?_) (fun hc => ?_); (focus (refine kEql ?_))) | (refine gBt (fun hc => ?_) (fun hc => ?_); (focus (refine kEql ?_))))
        all_goals refine wPick ?_
        all_goals refine wMove ?_
        all_goals (refine ow_cons ?_; first | (refine gTt ?_; refine kMove ?_) | refine gFt ?_ | refine gNo ?_ | refine gUn ?_ | (refine gYes ?_; refine kMove ?_) | (refine gSt (fun hc => ?_) (fun hc => ?_); (focus (refine kMove ?_))) | (refine gBt (fun hc => ?_) (fun hc => ?_); (focus (refine kMove ?_))))
        all_goals (refine ow_cons ?_; first | (refine gTt ?_; (refine st_call (av := [_]) rfl (window_spec b s2 a cap) (.cons selA (.nil _)) ?_; rintro v L' ⟨rfl, rfl⟩)) | refine gFt ?_ | refine gNo ?_ | refine gUn ?_ | (refine gYes ?_; (refine st_call (av := [_]) rfl (window_spec b s2 a cap) (.cons selA (.nil _)) ?_; rintro v L' ⟨rfl, rfl⟩)) | (refine gSt (fun hc => ?_) (fun hc => ?_); (focus ((refine st_call (av := [_]) rfl (window_spec b s2 a cap) (.cons selA (.nil _)) ?_; rintro v L' ⟨rfl, rfl⟩)))) | (refine gBt (fun hc => ?_) (fun hc => ?_); (focus ((refine st_call (av := [_]) rfl (window_spec b s2 a cap) (.cons selA (.nil _)) ?_; rintro v L' ⟨rfl, rfl⟩)))))
        all_goals (refine ow_cons ?_; first | (refine gTt ?_; refine kMove ?_) | refine gFt ?_ | refine gNo ?_ | refine gUn ?_ | (refine gYes ?_; refine kMove ?_) | (refine gSt (fun hc => ?_) (fun hc => ?_); (focus (refine kMove ?_))) | (refine gBt (fun hc => ?_) (fun hc => ?_); (focus (refine kMove ?_))))
        all_goals (refine ow_cons ?_; first | (refine gTt ?_; refine kMove ?_) | refine gFt ?_ | refine gNo ?_ | refine gUn ?_ | (refine gYes ?_; refine kMove ?_) | (refine gSt (fun hc => ?_) (fun hc => ?_); (focus (refine kMove ?_))) | (refine gBt (fun hc => ?_) (fun hc => ?_); (focus (refine kMove ?_))))
        all_goals (refine ow_cons ?_; first | (refine gTt ?_; refine kMul ?_) | refine gFt ?_ | refine gNo ?_ | refine gUn ?_ | (refine gYes ?_; refine kMul ?_) | (refine gSt (fun hc => ?_) (fun hc => ?_); (focus (refine kMul ?_))) | (refine gBt (fun hc => ?_) (fun hc => ?_); (focus (refine kMul ?_))))
        all_goals (refine ow_cons ?_; first | (refine gTt ?_; refine kAdd ?_) | refine gFt ?_ | refine gNo ?_ | refine gUn ?_ | (refine gYes ?_; refine kAdd ?_) | (refine gSt (fun hc => ?_) (fun hc => ?_); (focus (refine kAdd ?_))) | (refine gBt (fun hc => ?_) (fun hc => ?_); (focus (refine kAdd ?_))))
        all_goals (refine ow_cons ?_; first | (refine gTt ?_; refine kEql ?_) | refine gFt ?_ | refine gNo ?_ | refine gUn ?_ | (refine gYes ?_; refine kEql ?_) | (refine gSt (fun hc => ?_) (fun hc => ?_); (focus (refine kEql ?_))) | (refine gBt (fun hc => ?_) (fun hc => ?_); (focus (refine kEql ?_))))
        all_goals refine wPick ?_
        all_goals refine wMove ?_
        all_goals (refine ow_cons ?_; first | (refine gTt ?_; refine kMove ?_) | refine gFt ?_ | refine gNo ?_ | refine gUn ?_ | (refine gYes ?_; refine kMove ?_) | (refine gSt (fun hc => ?_) (fun hc => ?_); (focus (refine kMove ?_))) | (refine gBt (fun hc => ?_) (fun hc => ?_); (focus (refine kMove ?_))))
        all_goals (refine ow_cons ?_; first | (refine gTt ?_; (refine st_call (av := [_]) rfl (room_spec b s2 a cap hr1 hr2) (.cons selA (.nil _)) ?_; rintro v L' ⟨rfl, rfl⟩)) | refine gFt ?_ | refine gNo ?_ | refine gUn ?_ | (refine gYes ?_; (refine st_call (av := [_]) rfl (room_spec b s2 a cap hr1 hr2) (.cons selA (.nil _)) ?_; rintro v L' ⟨rfl, rfl⟩)) | (refine gSt (fun hc => ?_) (fun hc => ?_); (focus ((refine st_call (av := [_]) rfl (room_spec b s2 a cap hr1 hr2) (.cons selA (.nil _)) ?_; rintro v L' ⟨rfl, rfl⟩)))) | (refine gBt (fun hc => ?_) (fun hc => ?_); (focus ((refine st_call (av := [_]) rfl (room_spec b s2 a cap hr1 hr2) (.cons selA (.nil _)) ?_; rintro v L' ⟨rfl, rfl⟩)))))
        all_goals (refine ow_cons ?_; first | (refine gTt ?_; refine kMove ?_) | refine gFt ?_ | refine gNo ?_ | refine gUn ?_ | (refine gYes ?_; refine kMove ?_) | (refine gSt (fun hc => ?_) (fun hc => ?_); (focus (refine kMove ?_))) | (refine gBt (fun hc => ?_) (fun hc => ?_); (focus (refine kMove ?_))))
        all_goals (refine ow_cons ?_; first | (refine gTt ?_; (refine st_call (av := [_]) rfl (window_spec b s2 a cap) (.cons selA (.nil _)) ?_; rintro v L' ⟨rfl, rfl⟩)) | refine gFt ?_ | refine gNo ?_ | refine gUn ?_ | (refine gYes ?_; (refine st_call (av := [_]) rfl (window_spec b s2 a cap) (.cons selA (.nil _)) ?_; rintro v L' ⟨rfl, rfl⟩)) | (refine gSt (fun hc => ?_) (fun hc => ?_); (focus ((refine st_call (av := [_]) rfl (window_spec b s2 a cap) (.cons selA (.nil _)) ?_; rintro v L' ⟨rfl, rfl⟩)))) | (refine gBt (fun hc => ?_) (fun hc => ?_); (focus ((refine st_call (av := [_]) rfl (window_spec b s2 a cap) (.cons selA (.nil _)) ?_; rintro v L' ⟨rfl, rfl⟩)))))
        all_goals (refine ow_cons ?_; first | (refine gTt ?_; refine kEql ?_) | refine gFt ?_ | refine gNo ?_ | refine gUn ?_ | (refine gYes ?_; refine kEql ?_) | (refine gSt (fun hc => ?_) (fun hc => ?_); (focus (refine kEql ?_))) | (refine gBt (fun hc => ?_) (fun hc => ?_); (focus (refine kEql ?_))))
        all_goals refine wPick ?_
        all_goals refine wAssign ?_
        all_goals refine ow_nil ?_)
    | refine cw_seq ?_
    | refine tq_n ?_
    | (refine isCW ?_; first | refine cw_region rfl ?_ | refine cw_skip ?_ | refine cw_ret ?_ | refine cw_exit ?_ | refine cw_block ?_ | refine cT ?_ | refine cF ?_ | refine cTrue ?_ | refine cFalse ?_ | refine cS (fun hc => ?_) (fun hc => ?_) | refine cB (fun hc => ?_) (fun hc => ?_))
    | refine tq_ret ?_ | refine tq_exit ?_ | refine bq_n ?_ | refine bq_ret ?_ | refine bq_same ?_ | refine bq_ne rfl ?_
    | refine ow_cons ?_ | refine ow_nil ?_
    | (refine isOpK ?_; first
      | (refine isG ?_; first | refine opk_yes rfl rfl ?_ | refine opk_no rfl rfl ?_ | refine opk_no_undef rfl rfl ?_ | refine opk_g_t rfl rfl (by omega) ?_ | refine opk_g_f rfl rfl (by omega) ?_ | refine opk_g_s rfl rfl (fun hc => ?_) (fun hc => ?_) | refine opk_g_b rfl rfl (fun hc => ?_) (fun hc => ?_))
      | refine kRd ?_
      | refine kStore ?_
      | refine kStoreA ?_
      | refine kStoreR ?_
      | (refine kIdxR (fun g hg => ?_); subst hg)
      | (refine kIdxO (fun gb go hg => ?_); subst hg)
      | refine st_alloc (fun bN => ?_)
      | refine kBox (fun bN => ?_)
      | refine kBoxA (fun bN => ?_)
      | (refine st_buildSlice rfl rfl rfl rfl (fun bN => ?_))
      | (refine st_clearR rfl selA rfl (by omega) rfl rfl rfl ?_)
      | (refine st_clearR rfl selA (by omega) (by omega) rfl rfl rfl ?_)
      | (refine OpK.heap ?_ (fun w h => tr_blk_ro (cs := [i6 0, i6 ((m : Int) + 1 - 1)]) tSp [⟨0, m⟩] (by rw [hmm]; rfl) selA h); refine st_call (av := [_, _, _, _]) rfl (ackedAs b bN a cap _ _ [⟨0, m⟩] _ _ _ k1 (by simp) he) (.cons selA (.cons selA (.cons selA (.nil _)))) ?_; rintro v L' ⟨a1, c1, a2, c2, rfl, rfl⟩)
      | (refine st_call (av := [_]) rfl (flight_spec b s2 a cap) (.cons selA (.nil _)) ?_; rintro v L' ⟨rfl, rfl⟩)
      | (refine st_call (av := [_]) rfl (window_spec b s2 a cap) (.cons selA (.nil _)) ?_; rintro v L' ⟨rfl, rfl⟩)
      | (refine st_call (av := [_]) rfl (room_spec b s2 a cap hr1 hr2) (.cons selA (.nil _)) ?_; rintro v L' ⟨rfl, rfl⟩))
    | refine hw_cons ?_ | refine hw_nil ?_
    | (refine isOpS ?_; first
      | (refine os_isG ?_; first | refine os_yes rfl rfl ?_ | refine os_no rfl rfl ?_ | refine os_no_undef rfl rfl ?_ | refine os_g_t rfl rfl (by omega) ?_ | refine os_g_f rfl rfl (by omega) ?_ | refine os_g_s rfl rfl (fun hc => ?_) (fun hc => ?_) | refine os_g_b rfl rfl (fun hc => ?_) (fun hc => ?_))
      | refine sRd ?_))
  exact retQ_ret (retV_tmps [6] rfl rfl) ⟨(dec_t (by rw [hfl]; omega)).symm, rfl⟩ (fun _ _ h => pick0 h)
end Go.Proofs.Ytomaldjedncjoaa.E
