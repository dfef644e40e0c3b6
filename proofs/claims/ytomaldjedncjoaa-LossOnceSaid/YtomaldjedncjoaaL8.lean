/-
The layer 'loss': no state; lists of numbers held against each other; packets sent one behind the other; the chapter's example.
Conditions: each is said with its statement.
-/
import Derived.Test.YtomaldjedncjoaaL7
import Derived.Test.YtomaldjedncjoaaE12
set_option linter.unusedVariables false
namespace Go.Proofs.Ytomaldjedncjoaa.E
open Go
set_option maxRecDepth 100000
set_option maxHeartbeats 4000000
theorem time27n (t : Int) : Spec Go.Proofs.Try.prog 27 #[.pointer none, i6 t] [] (fun v L => v = .bool false ∧ L = []) := by
  refine spec_of (args := [.pointer none, i6 t]) Go.Proofs.Try.func27 rfl rfl fun w0 hw0 => ?_
  repeat' (first
    | (
        refine cw_region (id := 0) rfl ?_
        all_goals refine wAssign ?_
        all_goals refine ow_nil ?_)
    | (
        refine cw_region (id := 1) rfl ?_
        all_goals refine wMove ?_
        all_goals refine wNeq ?_
        all_goals refine wMove ?_
        all_goals (refine ow_cons ?_; first | refine gNo ?_ | refine gUn ?_ | (refine gYes ?_; refine kMove ?_) | (refine gTt ?_; refine kMove ?_) | refine gFt ?_ | (refine gSt (fun hc => ?_) (fun hc => ?_); (focus (refine kMove ?_))) | (refine gBt (fun hc => ?_) (fun hc => ?_); (focus (refine kMove ?_))))
        all_goals (refine ow_cons ?_; first | refine gNo ?_ | refine gUn ?_ | (refine gYes ?_; refine kMove ?_) | (refine gTt ?_; refine kMove ?_) | refine gFt ?_ | (refine gSt (fun hc => ?_) (fun hc => ?_); (focus (refine kMove ?_))) | (refine gBt (fun hc => ?_) (fun hc => ?_); (focus (refine kMove ?_))))
        all_goals (refine ow_cons ?_; first | refine gNo ?_ | refine gUn ?_ | (refine gYes ?_; refine kCheck ?_) | (refine gTt ?_; refine kCheck ?_) | refine gFt ?_ | (refine gSt (fun hc => ?_) (fun hc => ?_); (focus (refine kCheck ?_))) | (refine gBt (fun hc => ?_) (fun hc => ?_); (focus (refine kCheck ?_))))
        all_goals (refine ow_cons ?_; first | refine gNo ?_ | refine gUn ?_ | (refine gYes ?_; refine kField ?_) | (refine gTt ?_; refine kField ?_) | refine gFt ?_ | (refine gSt (fun hc => ?_) (fun hc => ?_); (focus (refine kField ?_))) | (refine gBt (fun hc => ?_) (fun hc => ?_); (focus (refine kField ?_))))
        all_goals (refine ow_cons ?_; first | refine gNo ?_ | refine gUn ?_ | (refine gYes ?_; refine kLoad ?_) | (refine gTt ?_; refine kLoad ?_) | refine gFt ?_ | (refine gSt (fun hc => ?_) (fun hc => ?_); (focus (refine kLoad ?_))) | (refine gBt (fun hc => ?_) (fun hc => ?_); (focus (refine kLoad ?_))))
        all_goals (refine ow_cons ?_; first | refine gNo ?_ | refine gUn ?_ | (refine gYes ?_; refine kGeq ?_) | (refine gTt ?_; refine kGeq ?_) | refine gFt ?_ | (refine gSt (fun hc => ?_) (fun hc => ?_); (focus (refine kGeq ?_))) | (refine gBt (fun hc => ?_) (fun hc => ?_); (focus (refine kGeq ?_))))
        all_goals refine wPick ?_
        all_goals refine wMove ?_
        all_goals (refine ow_cons ?_; first | refine gNo ?_ | refine gUn ?_ | (refine gYes ?_; refine kMove ?_) | (refine gTt ?_; refine kMove ?_) | refine gFt ?_ | (refine gSt (fun hc => ?_) (fun hc => ?_); (focus (refine kMove ?_))) | (refine gBt (fun hc => ?_) (fun hc => ?_); (focus (refine kMove ?_))))
        all_goals (refine ow_cons ?_; first | refine gNo ?_ | refine gUn ?_ | (refine gYes ?_; refine kLeq ?_) | (refine gTt ?_; refine kLeq ?_) | refine gFt ?_ | (refine gSt (fun hc => ?_) (fun hc => ?_); (focus (refine kLeq ?_))) | (refine gBt (fun hc => ?_) (fun hc => ?_); (focus (refine kLeq ?_))))
        all_goals refine wPick ?_
        all_goals refine wAssign ?_
        all_goals refine ow_nil ?_)
    | refine cw_seq ?_
    | refine tq_n ?_
    | refine cw_skip ?_ | refine cw_ret ?_ | refine cw_exit ?_ | refine cw_block ?_ | refine cTrue ?_ | refine cFalse ?_ | refine cT ?_ | refine cF ?_ | refine cS (fun hc => ?_) (fun hc => ?_) | refine cB (fun hc => ?_) (fun hc => ?_)
    | refine tq_ret ?_ | refine tq_exit ?_ | refine bq_n ?_ | refine bq_ret ?_ | refine bq_same ?_ | refine bq_ne rfl ?_)
  exact retQ_ret (retV_tmps [4] rfl rfl) ⟨rfl, rfl⟩ (fun _ _ h => h)
theorem sent10n (number size t : Int) (asks : Bool) : Spec Go.Proofs.Try.prog 10 #[.pointer none, i6 number, i6 size, .bool asks, i6 t] [] (fun v L => v = i6 1 ∧ L = []) := by
  refine spec_of (args := [.pointer none, i6 number, i6 size, .bool asks, i6 t]) Go.Proofs.Try.func10 rfl rfl fun w0 hw0 => ?_
  repeat' (first
    | (
        refine cw_region (id := 0) rfl ?_
        all_goals refine wAssign ?_
        all_goals refine ow_nil ?_)
    | (
        refine cw_region (id := 1) rfl ?_
        all_goals refine wMove ?_
        all_goals refine wMove ?_
        all_goals (refine ow_cons ?_; (refine st_call rfl (time27n t) (.nil _) ?_; rintro v L' ⟨rfl, rfl⟩))
        all_goals refine wNot ?_
        all_goals refine wMove ?_
        all_goals (refine ow_cons ?_; first | refine gNo ?_ | refine gUn ?_ | (refine gYes ?_; refine kMove ?_) | (refine gTf ?_; refine kMove ?_) | refine gFf ?_ | (refine gSf (fun hc => ?_) (fun hc => ?_); rotate_left; (focus (refine kMove ?_)); rotate_right) | (refine gBf (fun hc => ?_) (fun hc => ?_); rotate_left; (focus (refine kMove ?_)); rotate_right))
        all_goals (refine ow_cons ?_; first | refine gNo ?_ | refine gUn ?_ | (refine gYes ?_; refine kMove ?_) | (refine gTf ?_; refine kMove ?_) | refine gFf ?_ | (refine gSf (fun hc => ?_) (fun hc => ?_); rotate_left; (focus (refine kMove ?_)); rotate_right) | (refine gBf (fun hc => ?_) (fun hc => ?_); rotate_left; (focus (refine kMove ?_)); rotate_right))
        all_goals (refine ow_cons ?_; first | refine gNo ?_ | refine gUn ?_ | (refine gYes ?_; refine kCheck ?_) | (refine gTf ?_; refine kCheck ?_) | refine gFf ?_ | (refine gSf (fun hc => ?_) (fun hc => ?_); rotate_left; (focus (refine kCheck ?_)); rotate_right) | (refine gBf (fun hc => ?_) (fun hc => ?_); rotate_left; (focus (refine kCheck ?_)); rotate_right))
        all_goals (refine ow_cons ?_; first | refine gNo ?_ | refine gUn ?_ | (refine gYes ?_; refine kField ?_) | (refine gTf ?_; refine kField ?_) | refine gFf ?_ | (refine gSf (fun hc => ?_) (fun hc => ?_); rotate_left; (focus (refine kField ?_)); rotate_right) | (refine gBf (fun hc => ?_) (fun hc => ?_); rotate_left; (focus (refine kField ?_)); rotate_right))
        all_goals (refine ow_cons ?_; first | refine gNo ?_ | refine gUn ?_ | (refine gYes ?_; refine kLoad ?_) | (refine gTf ?_; refine kLoad ?_) | refine gFf ?_ | (refine gSf (fun hc => ?_) (fun hc => ?_); rotate_left; (focus (refine kLoad ?_)); rotate_right) | (refine gBf (fun hc => ?_) (fun hc => ?_); rotate_left; (focus (refine kLoad ?_)); rotate_right))
        all_goals (refine ow_cons ?_; first | refine gNo ?_ | refine gUn ?_ | (refine gYes ?_; refine kLeq ?_) | (refine gTf ?_; refine kLeq ?_) | refine gFf ?_ | (refine gSf (fun hc => ?_) (fun hc => ?_); rotate_left; (focus (refine kLeq ?_)); rotate_right) | (refine gBf (fun hc => ?_) (fun hc => ?_); rotate_left; (focus (refine kLeq ?_)); rotate_right))
        all_goals refine wPick ?_
        all_goals refine wMove ?_
        all_goals (refine ow_cons ?_; first | refine gNo ?_ | refine gUn ?_ | (refine gYes ?_; refine kMove ?_) | (refine gTf ?_; refine kMove ?_) | refine gFf ?_ | (refine gSf (fun hc => ?_) (fun hc => ?_); rotate_left; (focus (refine kMove ?_)); rotate_right) | (refine gBf (fun hc => ?_) (fun hc => ?_); rotate_left; (focus (refine kMove ?_)); rotate_right))
        all_goals (refine ow_cons ?_; first | refine gNo ?_ | refine gUn ?_ | (refine gYes ?_; refine kGtr ?_) | (refine gTf ?_; refine kGtr ?_) | refine gFf ?_ | (refine gSf (fun hc => ?_) (fun hc => ?_); rotate_left; (focus (refine kGtr ?_)); rotate_right) | (refine gBf (fun hc => ?_) (fun hc => ?_); rotate_left; (focus (refine kGtr ?_)); rotate_right))
        all_goals refine wPick ?_
        all_goals refine wMove ?_
        all_goals (refine ow_cons ?_; first | refine gNo ?_ | refine gUn ?_ | (refine gYes ?_; refine kMove ?_) | (refine gTf ?_; refine kMove ?_) | refine gFf ?_ | (refine gSf (fun hc => ?_) (fun hc => ?_); rotate_left; (focus (refine kMove ?_)); rotate_right) | (refine gBf (fun hc => ?_) (fun hc => ?_); rotate_left; (focus (refine kMove ?_)); rotate_right))
        all_goals (refine ow_cons ?_; first | refine gNo ?_ | refine gUn ?_ | (refine gYes ?_; refine kLss ?_) | (refine gTf ?_; refine kLss ?_) | refine gFf ?_ | (refine gSf (fun hc => ?_) (fun hc => ?_); rotate_left; (focus (refine kLss ?_)); rotate_right) | (refine gBf (fun hc => ?_) (fun hc => ?_); rotate_left; (focus (refine kLss ?_)); rotate_right))
        all_goals refine wPick ?_
        all_goals refine wMove ?_
        all_goals (refine ow_cons ?_; first | refine gNo ?_ | refine gUn ?_ | (refine gYes ?_; refine kMove ?_) | (refine gTf ?_; refine kMove ?_) | refine gFf ?_ | (refine gSf (fun hc => ?_) (fun hc => ?_); rotate_left; (focus (refine kMove ?_)); rotate_right) | (refine gBf (fun hc => ?_) (fun hc => ?_); rotate_left; (focus (refine kMove ?_)); rotate_right))
        all_goals (refine ow_cons ?_; first | refine gNo ?_ | refine gUn ?_ | (refine gYes ?_; refine kGtr ?_) | (refine gTf ?_; refine kGtr ?_) | refine gFf ?_ | (refine gSf (fun hc => ?_) (fun hc => ?_); rotate_left; (focus (refine kGtr ?_)); rotate_right) | (refine gBf (fun hc => ?_) (fun hc => ?_); rotate_left; (focus (refine kGtr ?_)); rotate_right))
        all_goals refine wPick ?_
        all_goals refine ow_nil ?_)
    | (
        refine cw_region (id := 2) rfl ?_
        all_goals refine wAssign ?_
        all_goals refine ow_nil ?_)
    | (
        refine cw_region (id := 3) rfl ?_
        all_goals refine wMove ?_
        all_goals refine wMove ?_
        all_goals refine wMove ?_
        all_goals refine wMove ?_
        all_goals refine wCheck ?_
        all_goals refine wField ?_
        all_goals (refine ow_cons ?_; first | refine kStore ?_ | refine kStoreA ?_ | refine kStoreR ?_)
        all_goals refine wCheck ?_
        all_goals refine wField ?_
        all_goals (refine ow_cons ?_; first | refine kStore ?_ | refine kStoreA ?_ | refine kStoreR ?_)
        all_goals refine ow_nil ?_)
    | (
        refine cw_region (id := 5) rfl ?_
        all_goals refine wMove ?_
        all_goals refine ow_nil ?_)
    | (
        refine cw_region (id := 6) rfl ?_
        all_goals refine wMove ?_
        all_goals refine wCheck ?_
        all_goals refine wField ?_
        all_goals refine wLoad ?_
        all_goals refine wMove ?_
        all_goals refine wAdd ?_
        all_goals refine wCheck ?_
        all_goals refine wField ?_
        all_goals (refine ow_cons ?_; first | refine kStore ?_ | refine kStoreA ?_ | refine kStoreR ?_)
        all_goals refine ow_nil ?_)
    | (
        refine cw_region (id := 7) rfl ?_
        all_goals refine wAssign ?_
        all_goals refine ow_nil ?_)
    | refine cw_seq ?_
    | refine tq_n ?_
    | (refine isCW ?_; first | refine cw_region rfl ?_ | refine cw_skip ?_ | refine cw_ret ?_ | refine cw_exit ?_ | refine cw_block ?_ | refine cTrue ?_ | refine cFalse ?_ | refine cT ?_ | refine cF ?_ | refine cS (fun hc => ?_) (fun hc => ?_) | refine cB (fun hc => ?_) (fun hc => ?_))
    | refine tq_ret ?_ | refine tq_exit ?_ | refine bq_n ?_ | refine bq_ret ?_ | refine bq_same ?_ | refine bq_ne rfl ?_
    | refine ow_cons ?_ | refine ow_nil ?_
    | (refine isOpK ?_; first
      | (refine isG ?_; first | refine opk_yes rfl rfl ?_ | refine opk_no rfl rfl ?_ | refine opk_no_undef rfl rfl ?_ | refine opk_g_t rfl rfl (by omega) ?_ | refine opk_g_f rfl rfl (by omega) ?_ | refine opk_g_s rfl rfl (fun hc => ?_) (fun hc => ?_) | refine opk_g_b rfl rfl (fun hc => ?_) (fun hc => ?_))
      | refine kRd ?_
      | refine kStore ?_
      | refine kStoreA ?_
      | refine kStoreR ?_
      | (refine kIdxR (fun g hg => ?_); subst hg)
      | (refine kIdxO (fun gb go hg => ?_); subst hg)
      | refine st_alloc (fun bN => ?_)
      | refine kBox (fun bN => ?_)
      | refine kBoxA (fun bN => ?_)
      | (refine st_buildSlice rfl rfl rfl rfl (fun bN => ?_))
      | (refine st_clearR rfl selA rfl (by omega) rfl rfl rfl ?_)
      | (refine st_clearR rfl selA (by omega) (by omega) rfl rfl rfl ?_)
      | (refine st_call rfl (time27n t) (.nil _) ?_; rintro v L' ⟨rfl, rfl⟩))
    | refine hw_cons ?_ | refine hw_nil ?_
    | (refine isOpS ?_; first
      | (refine os_isG ?_; first | refine os_yes rfl rfl ?_ | refine os_no rfl rfl ?_ | refine os_no_undef rfl rfl ?_ | refine os_g_t rfl rfl (by omega) ?_ | refine os_g_f rfl rfl (by omega) ?_ | refine os_g_s rfl rfl (fun hc => ?_) (fun hc => ?_) | refine os_g_b rfl rfl (fun hc => ?_) (fun hc => ?_))
      | refine sRd ?_))
  exact retQ_ret (retV_tmps [10] rfl rfl) ⟨rfl, rfl⟩ (fun _ _ h => pick0 h)
theorem acked11n (delay t : Int) : Spec Go.Proofs.Try.prog 11 #[.pointer none, .slice none 0 0, i6 delay, i6 t] [] (fun v L => v = .tuple #[.slice none 0 0, .slice none 0 0, i6 1] ∧ L = []) := by
  refine spec_of (args := [.pointer none, .slice none 0 0, i6 delay, i6 t]) Go.Proofs.Try.func11 rfl rfl fun w0 hw0 => ?_
  repeat' (first
    | (
        refine cw_region (id := 0) rfl ?_
        all_goals (refine ow_cons ?_; first | refine kBox (fun bN => ?_) | refine kBoxA (fun bN => ?_))
        all_goals refine wAssign ?_
        all_goals refine wAssign ?_
        all_goals refine wAssign ?_
        all_goals refine ow_nil ?_)
    | (
        refine cw_region (id := 1) rfl ?_
        all_goals refine wMove ?_
        all_goals refine wMove ?_
        all_goals (refine ow_cons ?_; (refine st_call rfl (time27n t) (.nil _) ?_; rintro v L' ⟨rfl, rfl⟩))
        all_goals refine wNot ?_
        all_goals refine wMove ?_
        all_goals (refine ow_cons ?_; first | refine gNo ?_ | refine gUn ?_ | (refine gYes ?_; refine kMove ?_) | (refine gTf ?_; refine kMove ?_) | refine gFf ?_ | (refine gSf (fun hc => ?_) (fun hc => ?_); rotate_left; (focus (refine kMove ?_)); rotate_right) | (refine gBf (fun hc => ?_) (fun hc => ?_); rotate_left; (focus (refine kMove ?_)); rotate_right))
        all_goals (refine ow_cons ?_; first | refine gNo ?_ | refine gUn ?_ | (refine gYes ?_; refine kLss ?_) | (refine gTf ?_; refine kLss ?_) | refine gFf ?_ | (refine gSf (fun hc => ?_) (fun hc => ?_); rotate_left; (focus (refine kLss ?_)); rotate_right) | (refine gBf (fun hc => ?_) (fun hc => ?_); rotate_left; (focus (refine kLss ?_)); rotate_right))
        all_goals refine wPick ?_
        all_goals refine wMove ?_
        all_goals (refine ow_cons ?_; first | refine gNo ?_ | refine gUn ?_ | (refine gYes ?_; refine kMove ?_) | (refine gTf ?_; refine kMove ?_) | refine gFf ?_ | (refine gSf (fun hc => ?_) (fun hc => ?_); rotate_left; (focus (refine kMove ?_)); rotate_right) | (refine gBf (fun hc => ?_) (fun hc => ?_); rotate_left; (focus (refine kMove ?_)); rotate_right))
        all_goals (refine ow_cons ?_; first | refine gNo ?_ | refine gUn ?_ | (refine gYes ?_; refine kGtr ?_) | (refine gTf ?_; refine kGtr ?_) | refine gFf ?_ | (refine gSf (fun hc => ?_) (fun hc => ?_); rotate_left; (focus (refine kGtr ?_)); rotate_right) | (refine gBf (fun hc => ?_) (fun hc => ?_); rotate_left; (focus (refine kGtr ?_)); rotate_right))
        all_goals refine wPick ?_
        all_goals refine ow_nil ?_)
    | (
        refine cw_region (id := 2) rfl ?_
        all_goals refine wAssign ?_
        all_goals refine wAssign ?_
        all_goals refine wAssign ?_
        all_goals refine ow_nil ?_)
    | (
        refine cw_region (id := 4) rfl ?_
        all_goals refine wMove ?_
        all_goals refine wNeq ?_
        all_goals refine ow_nil ?_)
    | (
        refine cw_region (id := 5) rfl ?_
        all_goals refine wMove ?_
        all_goals refine wAssign ?_
        all_goals refine wAssign ?_
        all_goals refine wAssign ?_
        all_goals refine ow_nil ?_)
    | (
        refine cw_region (id := 6) rfl ?_
        all_goals refine wMove ?_
        all_goals refine wMove ?_
        all_goals refine wCheck ?_
        all_goals refine wField ?_
        all_goals (refine ow_cons ?_; first | refine kStore ?_ | refine kStoreA ?_ | refine kStoreR ?_)
        all_goals refine ow_nil ?_)
    | (
        refine cw_region (id := 8) rfl ?_
        all_goals refine wMove ?_
        all_goals refine wLen ?_
        all_goals refine wGtr ?_
        all_goals refine ow_nil ?_)
    | (
        refine cw_region (id := 9) rfl ?_
        all_goals refine wMove ?_
        all_goals refine wMove ?_
        all_goals refine wLen ?_
        all_goals refine wSub ?_
        all_goals (refine ow_cons ?_; first | refine kIndex ?_ | (refine kIdxR (fun g hg => ?_); subst hg) | (refine kIdxO (fun gb go hg => ?_); subst hg))
        all_goals refine wLoad ?_
        all_goals (refine ow_cons ?_; refine st_alloc (fun bN => ?_))
        all_goals (refine ow_cons ?_; first | refine kStore ?_ | refine kStoreA ?_ | refine kStoreR ?_)
        all_goals refine ow_nil ?_)
    | (
        refine cw_draw (id := 10) 7 (by kernel_rfl) (by kernel_rfl) rfl ?_
        all_goals refine hField ?_
        all_goals refine hLoad ?_
        all_goals refine hMove ?_
        all_goals refine hCheck ?_
        all_goals refine hField ?_
        all_goals refine hLoad ?_
        all_goals refine hGeq ?_
        all_goals refine hw_nil ?_
        all_goals refine ow_nil ?_)
    | (
        refine cw_region (id := 11) rfl ?_
        all_goals refine wMove ?_
        all_goals refine wField ?_
        all_goals refine wLoad ?_
        all_goals refine wCheck ?_
        all_goals refine wField ?_
        all_goals (refine ow_cons ?_; first | refine kStore ?_ | refine kStoreA ?_ | refine kStoreR ?_)
        all_goals refine ow_nil ?_)
    | (
        refine cw_region (id := 14) rfl ?_
        all_goals refine wMove ?_
        all_goals refine wLen ?_
        all_goals refine wMove ?_
        all_goals refine ow_nil ?_)
    | (
        refine cw_region (id := 15) rfl ?_
        all_goals refine wLss ?_
        all_goals refine ow_nil ?_)
    | (
        refine cw_region (id := 16) rfl ?_
        all_goals (refine ow_cons ?_; first | refine kIndex ?_ | (refine kIdxR (fun g hg => ?_); subst hg) | (refine kIdxO (fun gb go hg => ?_); subst hg))
        all_goals refine wLoad ?_
        all_goals (refine ow_cons ?_; refine st_alloc (fun bN => ?_))
        all_goals (refine ow_cons ?_; first | refine kStore ?_ | refine kStoreA ?_ | refine kStoreR ?_)
        all_goals refine ow_nil ?_)
    | (
        refine cw_region (id := 18) rfl ?_
        all_goals refine wAdd ?_
        all_goals refine wMove ?_
        all_goals refine ow_nil ?_)
    | (
        refine cw_region (id := 19) rfl ?_
        all_goals refine wMove ?_
        all_goals refine wCheck ?_
        all_goals refine wField ?_
        all_goals (refine ow_cons ?_; first | refine kStore ?_ | refine kStoreA ?_ | refine kStoreR ?_)
        all_goals refine ow_nil ?_)
    | refine cw_seq ?_
    | refine tq_n ?_
    | (refine isCW ?_; first | refine cw_region rfl ?_ | refine cw_skip ?_ | refine cw_ret ?_ | refine cw_exit ?_ | refine cw_block ?_ | refine cTrue ?_ | refine cFalse ?_ | refine cT ?_ | refine cF ?_ | refine cS (fun hc => ?_) (fun hc => ?_) | refine cB (fun hc => ?_) (fun hc => ?_))
    | refine tq_ret ?_ | refine tq_exit ?_ | refine bq_n ?_ | refine bq_ret ?_ | refine bq_same ?_ | refine bq_ne rfl ?_
    | refine ow_cons ?_ | refine ow_nil ?_
    | (refine isOpK ?_; first
      | (refine isG ?_; first | refine opk_yes rfl rfl ?_ | refine opk_no rfl rfl ?_ | refine opk_no_undef rfl rfl ?_ | refine opk_g_t rfl rfl (by omega) ?_ | refine opk_g_f rfl rfl (by omega) ?_ | refine opk_g_s rfl rfl (fun hc => ?_) (fun hc => ?_) | refine opk_g_b rfl rfl (fun hc => ?_) (fun hc => ?_))
      | refine kRd ?_
      | refine kStore ?_
      | refine kStoreA ?_
      | refine kStoreR ?_
      | (refine kIdxR (fun g hg => ?_); subst hg)
      | (refine kIdxO (fun gb go hg => ?_); subst hg)
      | refine st_alloc (fun bN => ?_)
      | refine kBox (fun bN => ?_)
      | refine kBoxA (fun bN => ?_)
      | (refine st_buildSlice rfl rfl rfl rfl (fun bN => ?_))
      | (refine st_clearR rfl selA rfl (by omega) rfl rfl rfl ?_)
      | (refine st_clearR rfl selA (by omega) (by omega) rfl rfl rfl ?_)
      | (refine st_call rfl (time27n t) (.nil _) ?_; rintro v L' ⟨rfl, rfl⟩))
    | refine hw_cons ?_ | refine hw_nil ?_
    | (refine isOpS ?_; first
      | (refine os_isG ?_; first | refine os_yes rfl rfl ?_ | refine os_no rfl rfl ?_ | refine os_no_undef rfl rfl ?_ | refine os_g_t rfl rfl (by omega) ?_ | refine os_g_f rfl rfl (by omega) ?_ | refine os_g_s rfl rfl (fun hc => ?_) (fun hc => ?_) | refine os_g_b rfl rfl (fun hc => ?_) (fun hc => ?_))
      | refine sRd ?_))
  exact retQ_ret (retV_tmps [8, 9, 10] rfl rfl) ⟨rfl, rfl⟩ (fun _ _ h => pick0 h)
theorem flight14n : Spec Go.Proofs.Try.prog 14 #[.pointer none] [] (fun v L => v = i6 0 ∧ L = []) := by
  refine spec_of (args := [.pointer none]) Go.Proofs.Try.func14 rfl rfl fun w0 hw0 => ?_
  repeat' (first
    | (
        refine cw_region (id := 0) rfl ?_
        all_goals refine wAssign ?_
        all_goals refine ow_nil ?_)
    | (
        refine cw_region (id := 1) rfl ?_
        all_goals refine wMove ?_
        all_goals refine wEql ?_
        all_goals refine ow_nil ?_)
    | (
        refine cw_region (id := 2) rfl ?_
        all_goals refine wAssign ?_
        all_goals refine ow_nil ?_)
    | (
        refine cw_region (id := 3) rfl ?_
        all_goals refine wMove ?_
        all_goals refine wCheck ?_
        all_goals refine wField ?_
        all_goals refine wLoad ?_
        all_goals refine wAssign ?_
        all_goals refine ow_nil ?_)
    | refine cw_seq ?_
    | refine tq_n ?_
    | refine cw_skip ?_ | refine cw_ret ?_ | refine cw_exit ?_ | refine cw_block ?_ | refine cTrue ?_ | refine cFalse ?_ | refine cT ?_ | refine cF ?_ | refine cS (fun hc => ?_) (fun hc => ?_) | refine cB (fun hc => ?_) (fun hc => ?_)
    | refine tq_ret ?_ | refine tq_exit ?_ | refine bq_n ?_ | refine bq_ret ?_ | refine bq_same ?_ | refine bq_ne rfl ?_)
  exact retQ_ret (retV_tmps [2] rfl rfl) ⟨rfl, rfl⟩ (fun _ _ h => h)
theorem window15n : Spec Go.Proofs.Try.prog 15 #[.pointer none] [] (fun v L => v = i6 0 ∧ L = []) := by
  refine spec_of (args := [.pointer none]) Go.Proofs.Try.func15 rfl rfl fun w0 hw0 => ?_
  repeat' (first
    | (
        refine cw_region (id := 0) rfl ?_
        all_goals refine wAssign ?_
        all_goals refine ow_nil ?_)
    | (
        refine cw_region (id := 1) rfl ?_
        all_goals refine wMove ?_
        all_goals refine wEql ?_
        all_goals refine ow_nil ?_)
    | (
        refine cw_region (id := 2) rfl ?_
        all_goals refine wAssign ?_
        all_goals refine ow_nil ?_)
    | (
        refine cw_region (id := 3) rfl ?_
        all_goals refine wMove ?_
        all_goals refine wCheck ?_
        all_goals refine wField ?_
        all_goals refine wLoad ?_
        all_goals refine wAssign ?_
        all_goals refine ow_nil ?_)
    | refine cw_seq ?_
    | refine tq_n ?_
    | refine cw_skip ?_ | refine cw_ret ?_ | refine cw_exit ?_ | refine cw_block ?_ | refine cTrue ?_ | refine cFalse ?_ | refine cT ?_ | refine cF ?_ | refine cS (fun hc => ?_) (fun hc => ?_) | refine cB (fun hc => ?_) (fun hc => ?_)
    | refine tq_ret ?_ | refine tq_exit ?_ | refine bq_n ?_ | refine bq_ret ?_ | refine bq_same ?_ | refine bq_ne rfl ?_)
  exact retQ_ret (retV_tmps [2] rfl rfl) ⟨rfl, rfl⟩ (fun _ _ h => h)
theorem room18n : Spec Go.Proofs.Try.prog 18 #[.pointer none] [] (fun v L => v = i6 0 ∧ L = []) := by
  refine spec_of (args := [.pointer none]) Go.Proofs.Try.func18 rfl rfl fun w0 hw0 => ?_
  repeat' (first
    | (
        refine cw_region (id := 0) rfl ?_
        all_goals refine wAssign ?_
        all_goals refine ow_nil ?_)
    | (
        refine cw_region (id := 1) rfl ?_
        all_goals refine wMove ?_
        all_goals refine wEql ?_
        all_goals refine ow_nil ?_)
    | (
        refine cw_region (id := 2) rfl ?_
        all_goals refine wAssign ?_
        all_goals refine ow_nil ?_)
    | (
        refine cw_draw (id := 3) 11 (by kernel_rfl) (by kernel_rfl) rfl ?_
        all_goals refine hMove ?_
        all_goals refine hCheck ?_
        all_goals refine hField ?_
        all_goals refine hLoad ?_
        all_goals refine hMove ?_
        all_goals refine hCheck ?_
        all_goals refine hField ?_
        all_goals refine hLoad ?_
        all_goals refine hSub ?_
        all_goals refine hMax ?_
        all_goals refine hAssign ?_
        all_goals refine hw_nil ?_
        all_goals refine ow_nil ?_)
    | refine cw_seq ?_
    | refine tq_n ?_
    | refine cw_skip ?_ | refine cw_ret ?_ | refine cw_exit ?_ | refine cw_block ?_ | refine cTrue ?_ | refine cFalse ?_ | refine cT ?_ | refine cF ?_ | refine cS (fun hc => ?_) (fun hc => ?_) | refine cB (fun hc => ?_) (fun hc => ?_)
    | refine tq_ret ?_ | refine tq_exit ?_ | refine bq_n ?_ | refine bq_ret ?_ | refine bq_same ?_ | refine bq_ne rfl ?_)
  exact retQ_ret (retV_tmps [2] rfl rfl) ⟨rfl, rfl⟩ (fun _ _ h => h)
theorem none17 : Spec Go.Proofs.Try.prog 17 #[] [] (fun v L => v = .pointer none ∧ L = []) := by
  refine spec_of (args := []) Go.Proofs.Try.func17 rfl rfl fun w0 hw0 => ?_
  repeat' (first
    | (
        refine cw_region (id := 0) rfl ?_
        all_goals refine wAssign ?_
        all_goals refine ow_nil ?_)
    | (
        refine cw_region (id := 1) rfl ?_
        all_goals refine wAssign ?_
        all_goals refine ow_nil ?_)
    | refine cw_seq ?_
    | refine tq_n ?_
    | refine cw_skip ?_ | refine cw_ret ?_ | refine cw_exit ?_ | refine cw_block ?_ | refine cTrue ?_ | refine cFalse ?_ | refine cT ?_ | refine cF ?_ | refine cS (fun hc => ?_) (fun hc => ?_) | refine cB (fun hc => ?_) (fun hc => ?_)
    | refine tq_ret ?_ | refine tq_exit ?_ | refine bq_n ?_ | refine bq_ret ?_ | refine bq_same ?_ | refine bq_ne rfl ?_)
  exact retQ_ret (retV_tmps [0] rfl rfl) ⟨rfl, rfl⟩ (fun _ _ h => h)
theorem ints23 (ad1 ad2 : Option Addr) (c1 c2 : Nat) (xs ys : List Int) (hx : xs.length ≤ 1152921504606846976) (hy : ys.length ≤ 1152921504606846976) :
    Spec Go.Proofs.Try.prog 23 #[.slice ad1 xs.length c1, .slice ad2 ys.length c2] [ro ad1 (tInt .i64) xs, ro ad2 (tInt .i64) ys] (fun v L => v = .bool (decide (xs = ys)) ∧ L = [ro ad1 (tInt .i64) xs, ro ad2 (tInt .i64) ys]) := by
  refine spec_of (args := [.slice ad1 xs.length c1, .slice ad2 ys.length c2]) Go.Proofs.Try.func23 rfl rfl fun w0 hw0 => ?_
  repeat' (first
    | (
        refine cw_region (id := 0) rfl ?_
        all_goals refine wAssign ?_
        all_goals refine ow_nil ?_)
    | (
        refine cw_region (id := 1) rfl ?_
        all_goals refine wMove ?_
        all_goals refine wLen ?_
        all_goals refine wMove ?_
        all_goals refine wLen ?_
        all_goals refine wNeq ?_
        all_goals refine ow_nil ?_)
    | (
        refine cw_region (id := 2) rfl ?_
        all_goals refine wAssign ?_
        all_goals refine ow_nil ?_)
    | (
        refine cw_region (id := 3) rfl ?_
        all_goals refine wAssign ?_
        all_goals refine ow_nil ?_)
    | (
        refine cw_region (id := 4) rfl ?_
        all_goals refine wMove ?_
        all_goals refine wMove ?_
        all_goals refine wLen ?_
        all_goals refine wLss ?_
        all_goals refine ow_nil ?_)
    | (
        refine cw_draw (id := 6) 9 (by kernel_rfl) (by kernel_rfl) rfl ?_
        all_goals refine hMove ?_
        all_goals refine hMove ?_
        all_goals refine hIndex ?_
        all_goals refine hLoad ?_
        all_goals refine hMove ?_
        all_goals refine hMove ?_
        all_goals refine hIndex ?_
        all_goals refine hLoad ?_
        all_goals refine hNeq ?_
        all_goals refine hw_nil ?_
        all_goals refine ow_nil ?_)
    | (
        refine cw_region (id := 7) rfl ?_
        all_goals refine wAssign ?_
        all_goals refine ow_nil ?_)
    | (
        refine cw_region (id := 5) rfl ?_
        all_goals refine wMove ?_
        all_goals refine wAdd ?_
        all_goals refine wAssign ?_
        all_goals refine ow_nil ?_)
    | (
        refine cw_region (id := 8) rfl ?_
        all_goals refine wAssign ?_
        all_goals refine ow_nil ?_)
    | refine cw_seq ?_
    | refine tq_n ?_
    | refine cw_skip ?_ | refine cw_ret ?_ | refine cw_exit ?_ | refine cw_block ?_ | refine cTrue ?_ | refine cFalse ?_ | refine cT ?_ | refine cF ?_ | refine cS (fun hc => ?_) (fun hc => ?_) | refine cB (fun hc => ?_) (fun hc => ?_)
    | refine tq_ret ?_ | refine tq_exit ?_ | refine bq_n ?_ | refine bq_ret ?_ | refine bq_same ?_ | refine bq_ne rfl ?_)
  · exact retQ_ret (retV_tmps [4] rfl rfl) ⟨dec_f (by intro h; subst h; exact hc rfl), rfl⟩ (fun _ _ h => h)
  have hlen : xs.length = ys.length := by omega
  clear hc
  refine cw_rounds (S := fun i : Nat => [(0, .slice ad1 xs.length c1), (1, .slice ad2 ys.length c2), (4, .bool false), (5, .int .i64 (i : Nat))]) (H := fun _ => [ro ad1 (tInt .i64) xs, ro ad2 (tInt .i64) ys])
    (V := fun i => i ≤ xs.length ∧ xs.take i = ys.take i) (μ := fun i => xs.length - i) 0 ⟨rfl, rfl, rfl, rfl, trivial⟩ ⟨by omega, by simp⟩ (fun _ h => h) ?_
  rintro i e' ⟨hi, hn⟩
  dsimp only [upds]
  rcases Nat.lt_or_ge i xs.length with hlt | hge
  · refine CW.ro_some sel0 (by omega) fun b1 o1 h1 => ?_
    refine CW.ro_some sel1 (by omega) fun b2 o2 h2 => ?_
    subst h1; subst h2
    obtain ⟨x, hxi⟩ : ∃ x, xs[i]? = some x := ⟨_, List.getElem?_eq_getElem hlt⟩
    obtain ⟨y, hyi⟩ : ∃ y, ys[i]? = some y := ⟨_, List.getElem?_eq_getElem (hlen ▸ hlt)⟩
    repeat' (first
      | (
          refine cw_region (id := 0) rfl ?_
          all_goals refine wAssign ?_
          all_goals refine ow_nil ?_)
      | (
          refine cw_region (id := 1) rfl ?_
          all_goals refine wMove ?_
          all_goals refine wLen ?_
          all_goals refine wMove ?_
          all_goals refine wLen ?_
          all_goals refine wNeq ?_
          all_goals refine ow_nil ?_)
      | (
          refine cw_region (id := 2) rfl ?_
          all_goals refine wAssign ?_
          all_goals refine ow_nil ?_)
      | (
          refine cw_region (id := 3) rfl ?_
          all_goals refine wAssign ?_
          all_goals refine ow_nil ?_)
      | (
          refine cw_region (id := 4) rfl ?_
          all_goals refine wMove ?_
          all_goals refine wMove ?_
          all_goals refine wLen ?_
          all_goals refine wLss ?_
          all_goals refine ow_nil ?_)
      | (
          refine cw_draw (id := 6) 9 (by kernel_rfl) (by kernel_rfl) rfl ?_
          all_goals refine hMove ?_
          all_goals refine hMove ?_
          all_goals refine hIndex ?_
          all_goals refine hLoad ?_
          all_goals refine hMove ?_
          all_goals refine hMove ?_
          all_goals refine hIndex ?_
          all_goals refine hLoad ?_
          all_goals refine hNeq ?_
          all_goals refine hw_nil ?_
          all_goals refine ow_nil ?_)
      | (
          refine cw_region (id := 7) rfl ?_
          all_goals refine wAssign ?_
          all_goals refine ow_nil ?_)
      | (
          refine cw_region (id := 5) rfl ?_
          all_goals refine wMove ?_
          all_goals refine wAdd ?_
          all_goals refine wAssign ?_
          all_goals refine ow_nil ?_)
      | (
          refine cw_region (id := 8) rfl ?_
          all_goals refine wAssign ?_
          all_goals refine ow_nil ?_)
      | refine cw_seq ?_
      | refine tq_n ?_
      | refine cw_skip ?_ | refine cw_ret ?_ | refine cw_exit ?_ | refine cw_block ?_ | refine cTrue ?_ | refine cFalse ?_ | refine cT ?_ | refine cF ?_ | refine cS (fun hc => ?_) (fun hc => ?_) | refine cB (fun hc => ?_) (fun hc => ?_)
      | refine tq_ret ?_ | refine tq_exit ?_ | refine bq_n ?_ | refine bq_ret ?_ | refine bq_same ?_ | refine bq_ne rfl ?_)
    · refine retQ_ret (retV_tmps [4] rfl rfl) ⟨dec_f (fun h => ?_), rfl⟩ (fun _ _ h => h)
      subst h; rw [hxi] at hyi; injection hyi with hyi; exact hc hyi
    · have hxy : x = y := dnot hc
      subst hxy
      exact lp_end (i + 1) ⟨rfl, rfl, rfl, rfl, trivial⟩ ⟨by omega, by rw [take_snoc hxi, take_snoc hyi, hn]⟩ (by omega) (fun _ h => h)
  · skip
    repeat' (first
      | (
          refine cw_region (id := 0) rfl ?_
          all_goals refine wAssign ?_
          all_goals refine ow_nil ?_)
      | (
          refine cw_region (id := 1) rfl ?_
          all_goals refine wMove ?_
          all_goals refine wLen ?_
          all_goals refine wMove ?_
          all_goals refine wLen ?_
          all_goals refine wNeq ?_
          all_goals refine ow_nil ?_)
      | (
          refine cw_region (id := 2) rfl ?_
          all_goals refine wAssign ?_
          all_goals refine ow_nil ?_)
      | (
          refine cw_region (id := 3) rfl ?_
          all_goals refine wAssign ?_
          all_goals refine ow_nil ?_)
      | (
          refine cw_region (id := 4) rfl ?_
          all_goals refine wMove ?_
          all_goals refine wMove ?_
          all_goals refine wLen ?_
          all_goals refine wLss ?_
          all_goals refine ow_nil ?_)
      | (
          refine cw_draw (id := 6) 9 (by kernel_rfl) (by kernel_rfl) rfl ?_
          all_goals refine hMove ?_
          all_goals refine hMove ?_
          all_goals refine hIndex ?_
          all_goals refine hLoad ?_
          all_goals refine hMove ?_
          all_goals refine hMove ?_
          all_goals refine hIndex ?_
          all_goals refine hLoad ?_
          all_goals refine hNeq ?_
          all_goals refine hw_nil ?_
          all_goals refine ow_nil ?_)
      | (
          refine cw_region (id := 7) rfl ?_
          all_goals refine wAssign ?_
          all_goals refine ow_nil ?_)
      | (
          refine cw_region (id := 5) rfl ?_
          all_goals refine wMove ?_
          all_goals refine wAdd ?_
          all_goals refine wAssign ?_
          all_goals refine ow_nil ?_)
      | (
          refine cw_region (id := 8) rfl ?_
          all_goals refine wAssign ?_
          all_goals refine ow_nil ?_)
      | refine cw_seq ?_
      | refine tq_n ?_
      | refine cw_skip ?_ | refine cw_ret ?_ | refine cw_exit ?_ | refine cw_block ?_ | refine cTrue ?_ | refine cFalse ?_ | refine cT ?_ | refine cF ?_ | refine cS (fun hc => ?_) (fun hc => ?_) | refine cB (fun hc => ?_) (fun hc => ?_)
      | refine tq_ret ?_ | refine tq_exit ?_ | refine bq_n ?_ | refine bq_ret ?_ | refine bq_same ?_ | refine bq_ne rfl ?_)
    refine retQ_ret (retV_tmps [4] rfl rfl) ⟨dec_t ?_, rfl⟩ (fun _ _ h => h)
    rw [List.take_of_length_le hge, List.take_of_length_le (by omega)] at hn
    exact hn
def pkt (size t : Int) (i : Nat) : Pk := ⟨i, size, t, true⟩
/-- So many packets, one behind the other, at one time. -/
def sends (size t : Int) (n : Nat) : St := { newS with waits := (List.range n).map (pkt size t), top := (n : Int) - 1, flight := n * size, now := if n = 0 then 0 else t }
theorem sends_succ (size t : Int) (n : Nat) : (sends size t n).sent n size true t = sends size t (n + 1) := by
  simp only [St.sent, sends, if_true, List.range_succ, List.map_append, List.map_cons, List.map_nil, pkt]
  have h1 : ((n + 1 : Nat) : Int) - 1 = n := by omega
  have h2 : ((n + 1 : Nat) : Int) * size = n * size + size := by rw [Int.natCast_add, Int.add_mul]; simp
  rw [h1, h2, if_neg (by omega)]
theorem sends_good {size t : Int} {n : Nat} (hs : 1 ≤ size ∧ size ≤ 65535) (ht : 0 ≤ t ∧ t ≤ 1099511627776) (hn : n ≤ 1099511627776) : ¬ sentBad (sends size t n) n size t := by
  unfold sentBad sends
  simp only
  split <;> omega
theorem sends_ok {size t : Int} (hs : 1 ≤ size ∧ size ≤ 65535) (ht : 0 ≤ t ∧ t ≤ 1099511627776) : ∀ n : Nat, n ≤ 1099511627776 → (sends size t n).Ok
  | 0, _ => by
    have : sends size t 0 = newS := by simp [sends, newS]
    rw [this]; exact new_ok
  | n + 1, h => by
    rw [← sends_succ]
    exact sent_ok (sends_ok hs ht n (by omega)) (sends_good hs ht (by omega))
/-- One more. -/
theorem sends_spec (b : Nat) (size t : Int) (n : Nat) (a : Option Nat) (cap : Nat) (hs : 1 ≤ size ∧ size ≤ 65535) (ht : 0 ≤ t ∧ t ≤ 1099511627776) (hn : n ≤ 1000) :
    Spec Go.Proofs.Try.prog 10 #[ptr b, i6 n, i6 size, .bool true, i6 t] (stR b (sends size t n) a cap) (fun v L => ∃ a' cap', v = i6 0 ∧ L = stR b (sends size t (n + 1)) a' cap') := by
  have ok := sends_ok hs ht n (by omega)
  refine (sent_spec b (sends size t n) a cap n size true t (by simp [sends]; omega) ok.fl).mono ?_
  rintro v L (⟨h, _⟩ | ⟨_, rfl, a', cap', rfl⟩)
  · exact absurd h (sends_good hs ht (by omega))
  · exact ⟨a', cap', rfl, by rw [sends_succ]⟩
def travelsS : St := ⟨[⟨2, 100, 0, true⟩, ⟨3, 100, 0, true⟩], 4, 4, 40, 20, 40, 40, true, 6050, 6050, 40, 200, 0, 40⟩
theorem travels_acked : (sends 100 0 5).acked [⟨4, 4⟩] 0 40 = (travelsS, [4], [0, 1], 0) := by rfl
theorem travels_timer : travelsS.timer = (45, true, true) := by rfl
theorem travels_ok : travelsS.Ok := ⟨by decide, by decide, by decide, by decide, by decide, by decide, by decide, by decide, by decide, rfl, (fun q hq => by
  simp only [travelsS, List.mem_cons, List.not_mem_nil, or_false] at hq
  rcases hq with rfl | rfl <;> exact ⟨by decide, by decide, by decide⟩), by simp [travelsS]⟩
theorem travelsAcked (b bN : Nat) (a : Option Nat) (cap : Nat) :
    Spec Go.Proofs.Try.prog 11 #[ptr b, .slice (some ⟨bN, 0, none⟩) 1 1, i6 0, i6 40] (stR b (sends 100 0 5) a cap ++ [ro (some ⟨bN, 0, none⟩) tSp [⟨4, 4⟩]])
      (fun v L => ∃ a1 c1 a2 c2, v = .tuple #[.slice (oad a1) 1 c1, .slice (oad a2) 2 c2, i6 0] ∧ L = stR b travelsS a cap ++ [row a1 3 c1 (tInt .i64) [4], row a2 3 c2 (tInt .i64) [0, 1]]) := by
  refine (acked11 b (sends 100 0 5) a cap (some ⟨bN, 0, none⟩) 1 [⟨4, 4⟩] 0 40 (by decide) (sends_ok (by decide) (by decide) 5 (by decide))).mono ?_
  rw [travels_acked]
  rintro v L ⟨a1, c1, a2, c2, rfl, rfl⟩
  exact ⟨a1, c1, a2, c2, rfl, rfl⟩
theorem travelsTimer (b : Nat) (a : Option Nat) (cap : Nat) : Spec Go.Proofs.Try.prog 16 #[ptr b] (stR b travelsS a cap) (fun v L => v = .tuple #[i6 45, .bool true] ∧ L = stR b travelsS a cap) := by
  have h := travels_ok
  have := timer16 b travelsS a cap h.smooth h.vary h.tries h.last (by decide) (fun q hq => by have h1 := (h.each q hq).at_; have h2 := h.now; omega)
  rw [travels_timer] at this
  exact this
theorem travels8 : Spec Go.Proofs.Try.prog 8 #[] [] (fun v L => v = .bool true ∧ L = []) := by
  refine spec_of (args := []) Go.Proofs.Try.func8 rfl rfl fun w0 hw0 => ?_
  repeat' (first
    | (
        refine cw_region (id := 0) rfl ?_
        all_goals refine wAssign ?_
        all_goals refine ow_nil ?_)
    | (
        refine cw_region (id := 1) rfl ?_
        all_goals (refine ow_cons ?_; (refine st_call rfl new_spec (.nil _) ?_; rintro v L' ⟨b, rfl, rfl⟩))
        all_goals refine wAssign ?_
        all_goals refine ow_nil ?_)
    | (
        refine cw_region (id := 2) rfl ?_
        all_goals refine wAssign ?_
        all_goals refine ow_nil ?_)
    | (
        refine cw_region (id := 3) rfl ?_
        all_goals refine wMove ?_
        all_goals refine wLss ?_
        all_goals refine ow_nil ?_)
    | (
        refine cw_region (id := 6) rfl ?_
        all_goals refine wAssign ?_
        all_goals refine ow_nil ?_)
    | (
        refine cw_region (id := 4) rfl ?_
        all_goals refine wMove ?_
        all_goals refine wAdd ?_
        all_goals refine wAssign ?_
        all_goals refine ow_nil ?_)
    | refine cw_seq ?_
    | refine tq_n ?_
    | (refine isCW ?_; first | refine cw_region rfl ?_ | refine cw_skip ?_ | refine cw_ret ?_ | refine cw_exit ?_ | refine cw_block ?_ | refine cTrue ?_ | refine cFalse ?_ | refine cT ?_ | refine cF ?_ | refine cS (fun hc => ?_) (fun hc => ?_) | refine cB (fun hc => ?_) (fun hc => ?_))
    | refine tq_ret ?_ | refine tq_exit ?_ | refine bq_n ?_ | refine bq_ret ?_ | refine bq_same ?_ | refine bq_ne rfl ?_
    | refine ow_cons ?_ | refine ow_nil ?_
    | (refine isOpK ?_; first
      | (refine isG ?_; first | refine opk_yes rfl rfl ?_ | refine opk_no rfl rfl ?_ | refine opk_no_undef rfl rfl ?_ | refine opk_g_t rfl rfl (by omega) ?_ | refine opk_g_f rfl rfl (by omega) ?_ | refine opk_g_s rfl rfl (fun hc => ?_) (fun hc => ?_) | refine opk_g_b rfl rfl (fun hc => ?_) (fun hc => ?_))
      | refine kRd ?_
      | refine kStore ?_
      | refine kStoreA ?_
      | refine kStoreR ?_
      | (refine kIdxR (fun g hg => ?_); subst hg)
      | (refine kIdxO (fun gb go hg => ?_); subst hg)
      | refine st_alloc (fun bN => ?_)
      | refine kBox (fun bN => ?_)
      | refine kBoxA (fun bN => ?_)
      | (refine st_buildSlice rfl rfl rfl rfl (fun bN => ?_))
      | (refine st_clearR rfl selA rfl (by omega) rfl rfl rfl ?_)
      | (refine st_clearR rfl selA (by omega) (by omega) rfl rfl rfl ?_)
      | (refine st_call rfl new_spec (.nil _) ?_; rintro v L' ⟨b, rfl, rfl⟩))
    | refine hw_cons ?_ | refine hw_nil ?_
    | (refine isOpS ?_; first
      | (refine os_isG ?_; first | refine os_yes rfl rfl ?_ | refine os_no rfl rfl ?_ | refine os_no_undef rfl rfl ?_ | refine os_g_t rfl rfl (by omega) ?_ | refine os_g_f rfl rfl (by omega) ?_ | refine os_g_s rfl rfl (fun hc => ?_) (fun hc => ?_) | refine os_g_b rfl rfl (fun hc => ?_) (fun hc => ?_))
      | refine sRd ?_))
  have h0 : sends 100 0 0 = newS := rfl
  refine cw_rounds (S := fun g : Nat × Option Nat × Nat => [(0, .bool false), (1, ptr b), (2, .int .i64 (g.1 : Nat))]) (H := fun g => stR b (sends 100 0 g.1) g.2.1 g.2.2)
    (V := fun g => g.1 ≤ 5) (μ := fun g => 5 - g.1) (0, none, 0) ⟨rfl, rfl, rfl, trivial⟩ (by decide) (fun _ h => h) ?_
  rintro ⟨i, a, cap⟩ e' hi
  simp only at hi
  dsimp only [upds]
  rcases Nat.lt_or_ge i 5 with hlt | hge
  · unfold stR
    repeat' (first
      | (
          refine cw_region (id := 0) rfl ?_
          all_goals refine wAssign ?_
          all_goals refine ow_nil ?_)
      | (
          refine cw_region (id := 2) rfl ?_
          all_goals refine wAssign ?_
          all_goals refine ow_nil ?_)
      | (
          refine cw_region (id := 3) rfl ?_
          all_goals refine wMove ?_
          all_goals refine wLss ?_
          all_goals refine ow_nil ?_)
      | (
          refine cw_region (id := 5) rfl ?_
          all_goals refine wMove ?_
          all_goals refine wMove ?_
          all_goals (refine ow_cons ?_; (refine st_call (av := [_, _, _, _, _]) rfl (sends_spec b 100 0 i a cap (by decide) (by decide) (by omega)) (selL_all _) ?_; rintro v L' ⟨a', cap', rfl, rfl⟩))
          all_goals refine wNeq ?_
          all_goals refine ow_nil ?_)
      | (
          refine cw_region (id := 6) rfl ?_
          all_goals refine wAssign ?_
          all_goals refine ow_nil ?_)
      | (
          refine cw_region (id := 4) rfl ?_
          all_goals refine wMove ?_
          all_goals refine wAdd ?_
          all_goals refine wAssign ?_
          all_goals refine ow_nil ?_)
      | refine cw_seq ?_
      | refine tq_n ?_
      | (refine isCW ?_; first | refine cw_region rfl ?_ | refine cw_skip ?_ | refine cw_ret ?_ | refine cw_exit ?_ | refine cw_block ?_ | refine cTrue ?_ | refine cFalse ?_ | refine cT ?_ | refine cF ?_ | refine cS (fun hc => ?_) (fun hc => ?_) | refine cB (fun hc => ?_) (fun hc => ?_))
      | refine tq_ret ?_ | refine tq_exit ?_ | refine bq_n ?_ | refine bq_ret ?_ | refine bq_same ?_ | refine bq_ne rfl ?_
      | refine ow_cons ?_ | refine ow_nil ?_
      | (refine isOpK ?_; first
        | (refine isG ?_; first | refine opk_yes rfl rfl ?_ | refine opk_no rfl rfl ?_ | refine opk_no_undef rfl rfl ?_ | refine opk_g_t rfl rfl (by omega) ?_ | refine opk_g_f rfl rfl (by omega) ?_ | refine opk_g_s rfl rfl (fun hc => ?_) (fun hc => ?_) | refine opk_g_b rfl rfl (fun hc => ?_) (fun hc => ?_))
        | refine kRd ?_
        | refine kStore ?_
        | refine kStoreA ?_
        | refine kStoreR ?_
        | (refine kIdxR (fun g hg => ?_); subst hg)
        | (refine kIdxO (fun gb go hg => ?_); subst hg)
        | refine st_alloc (fun bN => ?_)
        | refine kBox (fun bN => ?_)
        | refine kBoxA (fun bN => ?_)
        | (refine st_buildSlice rfl rfl rfl rfl (fun bN => ?_))
        | (refine st_clearR rfl selA rfl (by omega) rfl rfl rfl ?_)
        | (refine st_clearR rfl selA (by omega) (by omega) rfl rfl rfl ?_)
        | (refine st_call (av := [_, _, _, _, _]) rfl (sends_spec b 100 0 i a cap (by decide) (by decide) (by omega)) (selL_all _) ?_; rintro v L' ⟨a', cap', rfl, rfl⟩))
      | refine hw_cons ?_ | refine hw_nil ?_
      | (refine isOpS ?_; first
        | (refine os_isG ?_; first | refine os_yes rfl rfl ?_ | refine os_no rfl rfl ?_ | refine os_no_undef rfl rfl ?_ | refine os_g_t rfl rfl (by omega) ?_ | refine os_g_f rfl rfl (by omega) ?_ | refine os_g_s rfl rfl (fun hc => ?_) (fun hc => ?_) | refine os_g_b rfl rfl (fun hc => ?_) (fun hc => ?_))
        | refine sRd ?_))
    exact lp_end (i + 1, a', cap') ⟨rfl, rfl, rfl, trivial⟩ (by simp only; omega) (by simp only; omega) (fun _ h => pick2 h selA selA)
  · have h5 : i = 5 := by omega
    subst h5
    unfold stR
    repeat' (first
      | (
          refine cw_region (id := 0) rfl ?_
          all_goals refine wAssign ?_
          all_goals refine ow_nil ?_)
      | (
          refine cw_region (id := 2) rfl ?_
          all_goals refine wAssign ?_
          all_goals refine ow_nil ?_)
      | (
          refine cw_region (id := 3) rfl ?_
          all_goals refine wMove ?_
          all_goals refine wLss ?_
          all_goals refine ow_nil ?_)
      | (
          refine cw_region (id := 6) rfl ?_
          all_goals refine wAssign ?_
          all_goals refine ow_nil ?_)
      | (
          refine cw_region (id := 4) rfl ?_
          all_goals refine wMove ?_
          all_goals refine wAdd ?_
          all_goals refine wAssign ?_
          all_goals refine ow_nil ?_)
      | (
          refine cw_region (id := 7) rfl ?_
          all_goals refine wMove ?_
          all_goals (refine ow_cons ?_; refine st_rd (rd_build (vs := [.int _ _, .int _ _]) rfl) ?_)
          all_goals (refine ow_cons ?_; refine st_buildSlice (vs := [.int _ _, .int _ _]) rfl rfl rfl rfl (fun bN => ?_))
          all_goals (refine ow_cons ?_; (refine OpK.heap ?_ (fun w h => tr_blk_ro tSp [⟨4, 4⟩] rfl selA h); refine st_call (av := [_, _, _, _]) rfl (travelsAcked b bN a cap) (.cons selA (.cons selA (.cons selA (.nil _)))) ?_; rintro v L' ⟨a1, c1, a2, c2, rfl, rfl⟩; refine OW.heap ?_ (fun w h => tr_row_ro (a := a1) (T := 3) (τ := tInt .i64) (xs := [4]) selA h); refine OW.heap ?_ (fun w h => tr_row_ro (a := a2) (T := 3) (τ := tInt .i64) (xs := [0, 1]) selA h)))
          all_goals refine wMove ?_
          all_goals refine wExtract ?_
          all_goals refine wExtract ?_
          all_goals refine wExtract ?_
          all_goals refine wAssign ?_
          all_goals refine wAssign ?_
          all_goals refine wAssign ?_
          all_goals refine ow_nil ?_)
      | (
          refine cw_region (id := 8) rfl ?_
          all_goals refine wMove ?_
          all_goals (refine ow_cons ?_; (refine st_call (av := [_]) rfl (trip_spec b travelsS a cap) (.cons selA (.nil _)) ?_; rintro v L' ⟨rfl, rfl⟩))
          all_goals refine wMove ?_
          all_goals refine wExtract ?_
          all_goals refine wExtract ?_
          all_goals refine wAssign ?_
          all_goals refine wAssign ?_
          all_goals refine ow_nil ?_)
      | (
          refine cw_region (id := 9) rfl ?_
          all_goals refine wMove ?_
          all_goals (refine ow_cons ?_; (refine st_call (av := [_]) rfl (travelsTimer b a cap) (.cons selA (.cons selA (.nil _))) ?_; rintro v L' ⟨rfl, rfl⟩))
          all_goals refine wMove ?_
          all_goals refine wExtract ?_
          all_goals refine wExtract ?_
          all_goals refine wAssign ?_
          all_goals refine wAssign ?_
          all_goals refine ow_nil ?_)
      | (
          refine cw_region (id := 10) rfl ?_
          all_goals refine wMove ?_
          all_goals refine wEql ?_
          all_goals refine wMove ?_
          all_goals (refine ow_cons ?_; first | refine gNo ?_ | refine gUn ?_ | (refine gYes ?_; refine kMove ?_) | (refine gTt ?_; refine kMove ?_) | refine gFt ?_ | (refine gSt (fun hc => ?_) (fun hc => ?_); (focus (refine kMove ?_))) | (refine gBt (fun hc => ?_) (fun hc => ?_); (focus (refine kMove ?_))))
          all_goals (refine ow_cons ?_; first | refine gNo ?_ | refine gUn ?_ | (refine gYes ?_; refine st_buildSlice (vs := [.int _ _]) rfl rfl rfl rfl (fun bN => ?_)) | (refine gTt ?_; refine st_buildSlice (vs := [.int _ _]) rfl rfl rfl rfl (fun bN => ?_)) | refine gFt ?_ | (refine gSt (fun hc => ?_) (fun hc => ?_); (focus (refine st_buildSlice (vs := [.int _ _]) rfl rfl rfl rfl (fun bN => ?_)))) | (refine gBt (fun hc => ?_) (fun hc => ?_); (focus (refine st_buildSlice (vs := [.int _ _]) rfl rfl rfl rfl (fun bN => ?_)))))
          all_goals (refine ow_cons ?_; first | refine gNo ?_ | refine gUn ?_ | (refine gYes ?_; first | (refine OpK.heap ?_ (fun w h => tr_blk_ro (tInt .i64) [4] rfl selA h); refine st_call (av := [_, _]) rfl (ints23 (oad a1) (some ⟨bN, 0, none⟩) c1 1 [4] [4] (by decide) (by decide)) (.cons selA (.cons selA (.nil _))) ?_; rintro v L' ⟨rfl, rfl⟩) | (refine OpK.heap ?_ (fun w h => tr_blk_ro (tInt .i64) [0, 1] rfl selA h); refine st_call (av := [_, _]) rfl (ints23 (oad a2) (some ⟨bN, 0, none⟩) c2 2 [0, 1] [0, 1] (by decide) (by decide)) (.cons selA (.cons selA (.nil _))) ?_; rintro v L' ⟨rfl, rfl⟩)) | (refine gTt ?_; first | (refine OpK.heap ?_ (fun w h => tr_blk_ro (tInt .i64) [4] rfl selA h); refine st_call (av := [_, _]) rfl (ints23 (oad a1) (some ⟨bN, 0, none⟩) c1 1 [4] [4] (by decide) (by decide)) (.cons selA (.cons selA (.nil _))) ?_; rintro v L' ⟨rfl, rfl⟩) | (refine OpK.heap ?_ (fun w h => tr_blk_ro (tInt .i64) [0, 1] rfl selA h); refine st_call (av := [_, _]) rfl (ints23 (oad a2) (some ⟨bN, 0, none⟩) c2 2 [0, 1] [0, 1] (by decide) (by decide)) (.cons selA (.cons selA (.nil _))) ?_; rintro v L' ⟨rfl, rfl⟩)) | refine gFt ?_ | (refine gSt (fun hc => ?_) (fun hc => ?_); (focus (first | (refine OpK.heap ?_ (fun w h => tr_blk_ro (tInt .i64) [4] rfl selA h); refine st_call (av := [_, _]) rfl (ints23 (oad a1) (some ⟨bN, 0, none⟩) c1 1 [4] [4] (by decide) (by decide)) (.cons selA (.cons selA (.nil _))) ?_; rintro v L' ⟨rfl, rfl⟩) | (refine OpK.heap ?_ (fun w h => tr_blk_ro (tInt .i64) [0, 1] rfl selA h); refine st_call (av := [_, _]) rfl (ints23 (oad a2) (some ⟨bN, 0, none⟩) c2 2 [0, 1] [0, 1] (by decide) (by decide)) (.cons selA (.cons selA (.nil _))) ?_; rintro v L' ⟨rfl, rfl⟩)))) | (refine gBt (fun hc => ?_) (fun hc => ?_); (focus (first | (refine OpK.heap ?_ (fun w h => tr_blk_ro (tInt .i64) [4] rfl selA h); refine st_call (av := [_, _]) rfl (ints23 (oad a1) (some ⟨bN, 0, none⟩) c1 1 [4] [4] (by decide) (by decide)) (.cons selA (.cons selA (.nil _))) ?_; rintro v L' ⟨rfl, rfl⟩) | (refine OpK.heap ?_ (fun w h => tr_blk_ro (tInt .i64) [0, 1] rfl selA h); refine st_call (av := [_, _]) rfl (ints23 (oad a2) (some ⟨bN, 0, none⟩) c2 2 [0, 1] [0, 1] (by decide) (by decide)) (.cons selA (.cons selA (.nil _))) ?_; rintro v L' ⟨rfl, rfl⟩)))))
          all_goals refine wPick ?_
          all_goals refine wMove ?_
          all_goals (refine ow_cons ?_; first | refine gNo ?_ | refine gUn ?_ | (refine gYes ?_; refine kMove ?_) | (refine gTt ?_; refine kMove ?_) | refine gFt ?_ | (refine gSt (fun hc => ?_) (fun hc => ?_); (focus (refine kMove ?_))) | (refine gBt (fun hc => ?_) (fun hc => ?_); (focus (refine kMove ?_))))
          all_goals (refine ow_cons ?_; first | refine gNo ?_ | refine gUn ?_ | (refine gYes ?_; refine st_buildSlice (vs := [.int _ _, .int _ _]) rfl rfl rfl rfl (fun bN => ?_)) | (refine gTt ?_; refine st_buildSlice (vs := [.int _ _, .int _ _]) rfl rfl rfl rfl (fun bN => ?_)) | refine gFt ?_ | (refine gSt (fun hc => ?_) (fun hc => ?_); (focus (refine st_buildSlice (vs := [.int _ _, .int _ _]) rfl rfl rfl rfl (fun bN => ?_)))) | (refine gBt (fun hc => ?_) (fun hc => ?_); (focus (refine st_buildSlice (vs := [.int _ _, .int _ _]) rfl rfl rfl rfl (fun bN => ?_)))))
          all_goals (refine ow_cons ?_; first | refine gNo ?_ | refine gUn ?_ | (refine gYes ?_; first | (refine OpK.heap ?_ (fun w h => tr_blk_ro (tInt .i64) [4] rfl selA h); refine st_call (av := [_, _]) rfl (ints23 (oad a1) (some ⟨bN, 0, none⟩) c1 1 [4] [4] (by decide) (by decide)) (.cons selA (.cons selA (.nil _))) ?_; rintro v L' ⟨rfl, rfl⟩) | (refine OpK.heap ?_ (fun w h => tr_blk_ro (tInt .i64) [0, 1] rfl selA h); refine st_call (av := [_, _]) rfl (ints23 (oad a2) (some ⟨bN, 0, none⟩) c2 2 [0, 1] [0, 1] (by decide) (by decide)) (.cons selA (.cons selA (.nil _))) ?_; rintro v L' ⟨rfl, rfl⟩)) | (refine gTt ?_; first | (refine OpK.heap ?_ (fun w h => tr_blk_ro (tInt .i64) [4] rfl selA h); refine st_call (av := [_, _]) rfl (ints23 (oad a1) (some ⟨bN, 0, none⟩) c1 1 [4] [4] (by decide) (by decide)) (.cons selA (.cons selA (.nil _))) ?_; rintro v L' ⟨rfl, rfl⟩) | (refine OpK.heap ?_ (fun w h => tr_blk_ro (tInt .i64) [0, 1] rfl selA h); refine st_call (av := [_, _]) rfl (ints23 (oad a2) (some ⟨bN, 0, none⟩) c2 2 [0, 1] [0, 1] (by decide) (by decide)) (.cons selA (.cons selA (.nil _))) ?_; rintro v L' ⟨rfl, rfl⟩)) | refine gFt ?_ | (refine gSt (fun hc => ?_) (fun hc => ?_); (focus (first | (refine OpK.heap ?_ (fun w h => tr_blk_ro (tInt .i64) [4] rfl selA h); refine st_call (av := [_, _]) rfl (ints23 (oad a1) (some ⟨bN, 0, none⟩) c1 1 [4] [4] (by decide) (by decide)) (.cons selA (.cons selA (.nil _))) ?_; rintro v L' ⟨rfl, rfl⟩) | (refine OpK.heap ?_ (fun w h => tr_blk_ro (tInt .i64) [0, 1] rfl selA h); refine st_call (av := [_, _]) rfl (ints23 (oad a2) (some ⟨bN, 0, none⟩) c2 2 [0, 1] [0, 1] (by decide) (by decide)) (.cons selA (.cons selA (.nil _))) ?_; rintro v L' ⟨rfl, rfl⟩)))) | (refine gBt (fun hc => ?_) (fun hc => ?_); (focus (first | (refine OpK.heap ?_ (fun w h => tr_blk_ro (tInt .i64) [4] rfl selA h); refine st_call (av := [_, _]) rfl (ints23 (oad a1) (some ⟨bN, 0, none⟩) c1 1 [4] [4] (by decide) (by decide)) (.cons selA (.cons selA (.nil _))) ?_; rintro v L' ⟨rfl, rfl⟩) | (refine OpK.heap ?_ (fun w h => tr_blk_ro (tInt .i64) [0, 1] rfl selA h); refine st_call (av := [_, _]) rfl (ints23 (oad a2) (some ⟨bN, 0, none⟩) c2 2 [0, 1] [0, 1] (by decide) (by decide)) (.cons selA (.cons selA (.nil _))) ?_; rintro v L' ⟨rfl, rfl⟩)))))
          all_goals refine wPick ?_
          all_goals refine wMove ?_
          all_goals (refine ow_cons ?_; first | refine gNo ?_ | refine gUn ?_ | (refine gYes ?_; refine kMove ?_) | (refine gTt ?_; refine kMove ?_) | refine gFt ?_ | (refine gSt (fun hc => ?_) (fun hc => ?_); (focus (refine kMove ?_))) | (refine gBt (fun hc => ?_) (fun hc => ?_); (focus (refine kMove ?_))))
          all_goals (refine ow_cons ?_; first | refine gNo ?_ | refine gUn ?_ | (refine gYes ?_; refine kEql ?_) | (refine gTt ?_; refine kEql ?_) | refine gFt ?_ | (refine gSt (fun hc => ?_) (fun hc => ?_); (focus (refine kEql ?_))) | (refine gBt (fun hc => ?_) (fun hc => ?_); (focus (refine kEql ?_))))
          all_goals refine wPick ?_
          all_goals refine wMove ?_
          all_goals (refine ow_cons ?_; first | refine gNo ?_ | refine gUn ?_ | (refine gYes ?_; refine kMove ?_) | (refine gTt ?_; refine kMove ?_) | refine gFt ?_ | (refine gSt (fun hc => ?_) (fun hc => ?_); (focus (refine kMove ?_))) | (refine gBt (fun hc => ?_) (fun hc => ?_); (focus (refine kMove ?_))))
          all_goals (refine ow_cons ?_; first | refine gNo ?_ | refine gUn ?_ | (refine gYes ?_; refine kEql ?_) | (refine gTt ?_; refine kEql ?_) | refine gFt ?_ | (refine gSt (fun hc => ?_) (fun hc => ?_); (focus (refine kEql ?_))) | (refine gBt (fun hc => ?_) (fun hc => ?_); (focus (refine kEql ?_))))
          all_goals refine wPick ?_
          all_goals refine wMove ?_
          all_goals (refine ow_cons ?_; first | refine gNo ?_ | refine gUn ?_ | (refine gYes ?_; refine kMove ?_) | (refine gTt ?_; refine kMove ?_) | refine gFt ?_ | (refine gSt (fun hc => ?_) (fun hc => ?_); (focus (refine kMove ?_))) | (refine gBt (fun hc => ?_) (fun hc => ?_); (focus (refine kMove ?_))))
          all_goals (refine ow_cons ?_; first | refine gNo ?_ | refine gUn ?_ | (refine gYes ?_; (refine st_call (av := [_]) rfl (window_spec b travelsS a cap) (.cons selA (.nil _)) ?_; rintro v L' ⟨rfl, rfl⟩)) | (refine gTt ?_; (refine st_call (av := [_]) rfl (window_spec b travelsS a cap) (.cons selA (.nil _)) ?_; rintro v L' ⟨rfl, rfl⟩)) | refine gFt ?_ | (refine gSt (fun hc => ?_) (fun hc => ?_); (focus ((refine st_call (av := [_]) rfl (window_spec b travelsS a cap) (.cons selA (.nil _)) ?_; rintro v L' ⟨rfl, rfl⟩)))) | (refine gBt (fun hc => ?_) (fun hc => ?_); (focus ((refine st_call (av := [_]) rfl (window_spec b travelsS a cap) (.cons selA (.nil _)) ?_; rintro v L' ⟨rfl, rfl⟩)))))
          all_goals (refine ow_cons ?_; first | refine gNo ?_ | refine gUn ?_ | (refine gYes ?_; refine kEql ?_) | (refine gTt ?_; refine kEql ?_) | refine gFt ?_ | (refine gSt (fun hc => ?_) (fun hc => ?_); (focus (refine kEql ?_))) | (refine gBt (fun hc => ?_) (fun hc => ?_); (focus (refine kEql ?_))))
          all_goals refine wPick ?_
          all_goals refine wMove ?_
          all_goals (refine ow_cons ?_; first | refine gNo ?_ | refine gUn ?_ | (refine gYes ?_; refine kMove ?_) | (refine gTt ?_; refine kMove ?_) | refine gFt ?_ | (refine gSt (fun hc => ?_) (fun hc => ?_); (focus (refine kMove ?_))) | (refine gBt (fun hc => ?_) (fun hc => ?_); (focus (refine kMove ?_))))
          all_goals (refine ow_cons ?_; first | refine gNo ?_ | refine gUn ?_ | (refine gYes ?_; (refine st_call (av := [_]) rfl (flight_spec b travelsS a cap) (.cons selA (.nil _)) ?_; rintro v L' ⟨rfl, rfl⟩)) | (refine gTt ?_; (refine st_call (av := [_]) rfl (flight_spec b travelsS a cap) (.cons selA (.nil _)) ?_; rintro v L' ⟨rfl, rfl⟩)) | refine gFt ?_ | (refine gSt (fun hc => ?_) (fun hc => ?_); (focus ((refine st_call (av := [_]) rfl (flight_spec b travelsS a cap) (.cons selA (.nil _)) ?_; rintro v L' ⟨rfl, rfl⟩)))) | (refine gBt (fun hc => ?_) (fun hc => ?_); (focus ((refine st_call (av := [_]) rfl (flight_spec b travelsS a cap) (.cons selA (.nil _)) ?_; rintro v L' ⟨rfl, rfl⟩)))))
          all_goals (refine ow_cons ?_; first | refine gNo ?_ | refine gUn ?_ | (refine gYes ?_; refine kEql ?_) | (refine gTt ?_; refine kEql ?_) | refine gFt ?_ | (refine gSt (fun hc => ?_) (fun hc => ?_); (focus (refine kEql ?_))) | (refine gBt (fun hc => ?_) (fun hc => ?_); (focus (refine kEql ?_))))
          all_goals refine wPick ?_
          all_goals refine wMove ?_
          all_goals (refine ow_cons ?_; first | refine gNo ?_ | refine gUn ?_ | (refine gYes ?_; refine kMove ?_) | (refine gTt ?_; refine kMove ?_) | refine gFt ?_ | (refine gSt (fun hc => ?_) (fun hc => ?_); (focus (refine kMove ?_))) | (refine gBt (fun hc => ?_) (fun hc => ?_); (focus (refine kMove ?_))))
          all_goals (refine ow_cons ?_; first | refine gNo ?_ | refine gUn ?_ | (refine gYes ?_; refine kEql ?_) | (refine gTt ?_; refine kEql ?_) | refine gFt ?_ | (refine gSt (fun hc => ?_) (fun hc => ?_); (focus (refine kEql ?_))) | (refine gBt (fun hc => ?_) (fun hc => ?_); (focus (refine kEql ?_))))
          all_goals refine wPick ?_
          all_goals refine wMove ?_
          all_goals (refine ow_cons ?_; first | refine gNo ?_ | refine gUn ?_ | (refine gYes ?_; refine kMove ?_) | (refine gTt ?_; refine kMove ?_) | refine gFt ?_ | (refine gSt (fun hc => ?_) (fun hc => ?_); (focus (refine kMove ?_))) | (refine gBt (fun hc => ?_) (fun hc => ?_); (focus (refine kMove ?_))))
          all_goals refine wPick ?_
          all_goals refine wAssign ?_
          all_goals refine ow_nil ?_)
      | refine cw_seq ?_
      | refine tq_n ?_
      | (refine isCW ?_; first | refine cw_region rfl ?_ | refine cw_skip ?_ | refine cw_ret ?_ | refine cw_exit ?_ | refine cw_block ?_ | refine cTrue ?_ | refine cFalse ?_ | refine cT ?_ | refine cF ?_ | refine cS (fun hc => ?_) (fun hc => ?_) | refine cB (fun hc => ?_) (fun hc => ?_))
      | refine tq_ret ?_ | refine tq_exit ?_ | refine bq_n ?_ | refine bq_ret ?_ | refine bq_same ?_ | refine bq_ne rfl ?_
      | refine ow_cons ?_ | refine ow_nil ?_
      | (refine isOpK ?_; first
        | (refine isG ?_; first | refine opk_yes rfl rfl ?_ | refine opk_no rfl rfl ?_ | refine opk_no_undef rfl rfl ?_ | refine opk_g_t rfl rfl (by omega) ?_ | refine opk_g_f rfl rfl (by omega) ?_ | refine opk_g_s rfl rfl (fun hc => ?_) (fun hc => ?_) | refine opk_g_b rfl rfl (fun hc => ?_) (fun hc => ?_))
        | refine kRd ?_
        | refine kStore ?_
        | refine kStoreA ?_
        | refine kStoreR ?_
        | (refine kIdxR (fun g hg => ?_); subst hg)
        | (refine kIdxO (fun gb go hg => ?_); subst hg)
        | refine st_alloc (fun bN => ?_)
        | refine kBox (fun bN => ?_)
        | refine kBoxA (fun bN => ?_)
        | (refine st_buildSlice rfl rfl rfl rfl (fun bN => ?_))
        | (refine st_clearR rfl selA rfl (by omega) rfl rfl rfl ?_)
        | (refine st_clearR rfl selA (by omega) (by omega) rfl rfl rfl ?_)
        | (refine OpK.heap ?_ (fun w h => tr_blk_ro tSp [⟨4, 4⟩] rfl selA h); refine st_call (av := [_, _, _, _]) rfl (travelsAcked b bN a cap) (.cons selA (.cons selA (.cons selA (.nil _)))) ?_; rintro v L' ⟨a1, c1, a2, c2, rfl, rfl⟩; refine OW.heap ?_ (fun w h => tr_row_ro (a := a1) (T := 3) (τ := tInt .i64) (xs := [4]) selA h); refine OW.heap ?_ (fun w h => tr_row_ro (a := a2) (T := 3) (τ := tInt .i64) (xs := [0, 1]) selA h))
        | (refine st_call (av := [_]) rfl (trip_spec b travelsS a cap) (.cons selA (.nil _)) ?_; rintro v L' ⟨rfl, rfl⟩)
        | (refine st_call (av := [_]) rfl (travelsTimer b a cap) (.cons selA (.cons selA (.nil _))) ?_; rintro v L' ⟨rfl, rfl⟩)
        | (refine OpK.heap ?_ (fun w h => tr_blk_ro (tInt .i64) [4] rfl selA h); refine st_call (av := [_, _]) rfl (ints23 (oad a1) (some ⟨bN, 0, none⟩) c1 1 [4] [4] (by decide) (by decide)) (.cons selA (.cons selA (.nil _))) ?_; rintro v L' ⟨rfl, rfl⟩)
        | (refine OpK.heap ?_ (fun w h => tr_blk_ro (tInt .i64) [0, 1] rfl selA h); refine st_call (av := [_, _]) rfl (ints23 (oad a2) (some ⟨bN, 0, none⟩) c2 2 [0, 1] [0, 1] (by decide) (by decide)) (.cons selA (.cons selA (.nil _))) ?_; rintro v L' ⟨rfl, rfl⟩)
        | (refine st_call (av := [_]) rfl (window_spec b travelsS a cap) (.cons selA (.nil _)) ?_; rintro v L' ⟨rfl, rfl⟩)
        | (refine st_call (av := [_]) rfl (flight_spec b travelsS a cap) (.cons selA (.nil _)) ?_; rintro v L' ⟨rfl, rfl⟩))
      | refine hw_cons ?_ | refine hw_nil ?_
      | (refine isOpS ?_; first
        | (refine os_isG ?_; first | refine os_yes rfl rfl ?_ | refine os_no rfl rfl ?_ | refine os_no_undef rfl rfl ?_ | refine os_g_t rfl rfl (by omega) ?_ | refine os_g_f rfl rfl (by omega) ?_ | refine os_g_s rfl rfl (fun hc => ?_) (fun hc => ?_) | refine os_g_b rfl rfl (fun hc => ?_) (fun hc => ?_))
        | refine sRd ?_))
    exact retQ_ret (retV_tmps [0] rfl rfl) ⟨rfl, rfl⟩ (fun _ _ h => pick0 h)
end Go.Proofs.Ytomaldjedncjoaa.E
