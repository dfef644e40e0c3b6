/-
The law LossTrips, as the program's own code does it.
Conditions: each is said with its statement.
-/
import Derived.Test.YtomaldjedncjoaaM2
set_option linter.unusedVariables false
namespace Go.Proofs.Ytomaldjedncjoaa.E
open Go
set_option maxRecDepth 100000
set_option maxHeartbeats 4000000
theorem tripSent (b : Nat) (a : Option Nat) (cap : Nat) {i : Nat} {s : St} {low high now : Int} (h : TripI i s low high now) (hi : i < 60) :
    Spec Go.Proofs.Try.prog 10 #[ptr b, i6 i, i6 100, .bool true, i6 now] (stR b s a cap) (fun v L => ∃ a' cap', v = i6 0 ∧ L = stR b (s.sent i 100 true now) a' cap') := by
  refine (sent_spec b s a cap i 100 true now (by rw [h.waits]; decide) h.ok.fl).mono ?_
  rintro v L (⟨h1, _⟩ | ⟨_, rfl, a', cap', rfl⟩)
  · exact absurd h1 (trip_good h hi)
  · exact ⟨a', cap', rfl, rfl⟩
theorem tripAcked (b bN : Nat) (a : Option Nat) (cap : Nat) {i : Nat} {s s2 : St} {low high now n : Int} (h : TripI i s low high now) (hi : i < 60) (he : (s.sent i 100 true now).acked [⟨i, i⟩] 0 (now + n) = (s2, [(i : Int)], [], 0)) :
    Spec Go.Proofs.Try.prog 11 #[ptr b, .slice (some ⟨bN, 0, none⟩) 1 1, i6 0, i6 (now + n)] (stR b (s.sent i 100 true now) a cap ++ [ro (some ⟨bN, 0, none⟩) tSp [⟨i, i⟩]])
      (fun v L => ∃ a1 c1 a2 c2, v = .tuple #[.slice (oad a1) 1 c1, .slice (oad a2) 0 c2, i6 0] ∧ L = stR b s2 a cap ++ [row a1 3 c1 (tInt .i64) [(i : Int)], row a2 3 c2 (tInt .i64) []]) := by
  refine (acked11 b (s.sent i 100 true now) a cap (some ⟨bN, 0, none⟩) 1 [⟨i, i⟩] 0 (now + n) (by simp) (sent_ok h.ok (trip_good h hi))).mono ?_
  rw [he]
  rintro v L ⟨a1, c1, a2, c2, rfl, rfl⟩
  exact ⟨a1, c1, a2, c2, rfl, rfl⟩
theorem trips3 (ad : Option Addr) (cap : Nat) (xs : List Int) :
    Spec Go.Proofs.Try.prog 3 #[.slice ad xs.length cap] [ro ad (tInt .i64) xs] (fun v L => v = .bool true ∧ L = [ro ad (tInt .i64) xs]) := by
  refine spec_of (args := [.slice ad xs.length cap]) Go.Proofs.Try.func3 rfl rfl fun w0 hw0 => ?_
  repeat' (first
    | (
        refine cw_region (id := 0) rfl ?_
        all_goals refine wAssign ?_
        all_goals refine ow_nil ?_)
    | (
        refine cw_region (id := 1) rfl ?_
        all_goals (refine ow_cons ?_; (refine st_call rfl travels8 (.nil _) ?_; rintro v L' ⟨rfl, rfl⟩))
        all_goals refine wNot ?_
        all_goals refine ow_nil ?_)
    | (
        refine cw_region (id := 2) rfl ?_
        all_goals refine wAssign ?_
        all_goals refine ow_nil ?_)
    | (
        refine cw_region (id := 3) rfl ?_
        all_goals (refine ow_cons ?_; (refine st_call rfl new_spec (.nil _) ?_; rintro v L' ⟨b, rfl, rfl⟩))
        all_goals refine wAssign ?_
        all_goals refine ow_nil ?_)
    | (
        refine cw_region (id := 4) rfl ?_
        all_goals refine wAssign ?_
        all_goals refine wAssign ?_
        all_goals refine wAssign ?_
        all_goals refine ow_nil ?_)
    | (
        refine cw_region (id := 5) rfl ?_
        all_goals refine wAssign ?_
        all_goals refine ow_nil ?_)
    | (
        refine cw_region (id := 6) rfl ?_
        all_goals refine wMove ?_
        all_goals refine wMove ?_
        all_goals refine wLen ?_
        all_goals refine wLss ?_
        all_goals refine wMove ?_
        all_goals (refine ow_cons ?_; first | refine gNo ?_ | refine gUn ?_ | (refine gYes ?_; refine kMove ?_) | (refine gTt ?_; refine kMove ?_) | refine gFt ?_ | (refine gSt (fun hc => ?_) (fun hc => ?_); (focus (refine kMove ?_))) | (refine gBt (fun hc => ?_) (fun hc => ?_); (focus (refine kMove ?_))))
        all_goals (refine ow_cons ?_; first | refine gNo ?_ | refine gUn ?_ | (refine gYes ?_; refine kLss ?_) | (refine gTt ?_; refine kLss ?_) | refine gFt ?_ | (refine gSt (fun hc => ?_) (fun hc => ?_); (focus (refine kLss ?_))) | (refine gBt (fun hc => ?_) (fun hc => ?_); (focus (refine kLss ?_))))
        all_goals refine wPick ?_
        all_goals refine ow_nil ?_)
    | (
        refine cw_region (id := 8) rfl ?_
        all_goals refine wMove ?_
        all_goals refine wMove ?_
        all_goals (refine ow_cons ?_; first | refine kIndex ?_ | (refine kIdxR (fun g hg => ?_); subst hg) | (refine kIdxO (fun gb go hg => ?_); subst hg))
        all_goals refine wLoad ?_
        all_goals refine wConv ?_
        all_goals refine wRem ?_
        all_goals refine wConv ?_
        all_goals refine wAssign ?_
        all_goals refine ow_nil ?_)
    | (
        refine cw_region (id := 10) rfl ?_
        all_goals refine wAssign ?_
        all_goals refine ow_nil ?_)
    | (
        refine cw_region (id := 11) rfl ?_
        all_goals refine wMove ?_
        all_goals refine wMove ?_
        all_goals refine wAdd ?_
        all_goals refine wAssign ?_
        all_goals refine ow_nil ?_)
    | (
        refine cw_region (id := 13) rfl ?_
        all_goals refine wMove ?_
        all_goals refine wNeq ?_
        all_goals refine ow_nil ?_)
    | (
        refine cw_region (id := 14) rfl ?_
        all_goals refine wAssign ?_
        all_goals refine ow_nil ?_)
    | (
        refine cw_region (id := 15) rfl ?_
        all_goals refine wMove ?_
        all_goals refine wMove ?_
        all_goals refine wMin ?_
        all_goals refine wMove ?_
        all_goals refine wMove ?_
        all_goals refine wMax ?_
        all_goals refine wAssign ?_
        all_goals refine wAssign ?_
        all_goals refine ow_nil ?_)
    | (
        refine cw_region (id := 17) rfl ?_
        all_goals refine wMove ?_
        all_goals refine wMove ?_
        all_goals refine wSub ?_
        all_goals refine wLss ?_
        all_goals refine wMove ?_
        all_goals (refine ow_cons ?_; first | refine gNo ?_ | refine gUn ?_ | (refine gYes ?_; refine kMove ?_) | (refine gTf ?_; refine kMove ?_) | refine gFf ?_ | (refine gSf (fun hc => ?_) (fun hc => ?_); rotate_left; (focus (refine kMove ?_)); rotate_right) | (refine gBf (fun hc => ?_) (fun hc => ?_); rotate_left; (focus (refine kMove ?_)); rotate_right))
        all_goals (refine ow_cons ?_; first | refine gNo ?_ | refine gUn ?_ | (refine gYes ?_; refine kMove ?_) | (refine gTf ?_; refine kMove ?_) | refine gFf ?_ | (refine gSf (fun hc => ?_) (fun hc => ?_); rotate_left; (focus (refine kMove ?_)); rotate_right) | (refine gBf (fun hc => ?_) (fun hc => ?_); rotate_left; (focus (refine kMove ?_)); rotate_right))
        all_goals (refine ow_cons ?_; first | refine gNo ?_ | refine gUn ?_ | (refine gYes ?_; refine kGtr ?_) | (refine gTf ?_; refine kGtr ?_) | refine gFf ?_ | (refine gSf (fun hc => ?_) (fun hc => ?_); rotate_left; (focus (refine kGtr ?_)); rotate_right) | (refine gBf (fun hc => ?_) (fun hc => ?_); rotate_left; (focus (refine kGtr ?_)); rotate_right))
        all_goals refine wPick ?_
        all_goals refine wMove ?_
        all_goals (refine ow_cons ?_; first | refine gNo ?_ | refine gUn ?_ | (refine gYes ?_; refine kMove ?_) | (refine gTf ?_; refine kMove ?_) | refine gFf ?_ | (refine gSf (fun hc => ?_) (fun hc => ?_); rotate_left; (focus (refine kMove ?_)); rotate_right) | (refine gBf (fun hc => ?_) (fun hc => ?_); rotate_left; (focus (refine kMove ?_)); rotate_right))
        all_goals (refine ow_cons ?_; first | refine gNo ?_ | refine gUn ?_ | (refine gYes ?_; refine kLss ?_) | (refine gTf ?_; refine kLss ?_) | refine gFf ?_ | (refine gSf (fun hc => ?_) (fun hc => ?_); rotate_left; (focus (refine kLss ?_)); rotate_right) | (refine gBf (fun hc => ?_) (fun hc => ?_); rotate_left; (focus (refine kLss ?_)); rotate_right))
        all_goals refine wPick ?_
        all_goals refine wMove ?_
        all_goals (refine ow_cons ?_; first | refine gNo ?_ | refine gUn ?_ | (refine gYes ?_; refine kMove ?_) | (refine gTf ?_; refine kMove ?_) | refine gFf ?_ | (refine gSf (fun hc => ?_) (fun hc => ?_); rotate_left; (focus (refine kMove ?_)); rotate_right) | (refine gBf (fun hc => ?_) (fun hc => ?_); rotate_left; (focus (refine kMove ?_)); rotate_right))
        all_goals (refine ow_cons ?_; first | refine gNo ?_ | refine gUn ?_ | (refine gYes ?_; refine kMove ?_) | (refine gTf ?_; refine kMove ?_) | refine gFf ?_ | (refine gSf (fun hc => ?_) (fun hc => ?_); rotate_left; (focus (refine kMove ?_)); rotate_right) | (refine gBf (fun hc => ?_) (fun hc => ?_); rotate_left; (focus (refine kMove ?_)); rotate_right))
        all_goals (refine ow_cons ?_; first | refine gNo ?_ | refine gUn ?_ | (refine gYes ?_; refine kGtr ?_) | (refine gTf ?_; refine kGtr ?_) | refine gFf ?_ | (refine gSf (fun hc => ?_) (fun hc => ?_); rotate_left; (focus (refine kGtr ?_)); rotate_right) | (refine gBf (fun hc => ?_) (fun hc => ?_); rotate_left; (focus (refine kGtr ?_)); rotate_right))
        all_goals refine wPick ?_
        all_goals refine wMove ?_
        all_goals (refine ow_cons ?_; first | refine gNo ?_ | refine gUn ?_ | (refine gYes ?_; refine kMove ?_) | (refine gTf ?_; refine kMove ?_) | refine gFf ?_ | (refine gSf (fun hc => ?_) (fun hc => ?_); rotate_left; (focus (refine kMove ?_)); rotate_right) | (refine gBf (fun hc => ?_) (fun hc => ?_); rotate_left; (focus (refine kMove ?_)); rotate_right))
        all_goals (refine ow_cons ?_; first | refine gNo ?_ | refine gUn ?_ | (refine gYes ?_; refine kMove ?_) | (refine gTf ?_; refine kMove ?_) | refine gFf ?_ | (refine gSf (fun hc => ?_) (fun hc => ?_); rotate_left; (focus (refine kMove ?_)); rotate_right) | (refine gBf (fun hc => ?_) (fun hc => ?_); rotate_left; (focus (refine kMove ?_)); rotate_right))
        all_goals (refine ow_cons ?_; first | refine gNo ?_ | refine gUn ?_ | (refine gYes ?_; refine kEql ?_) | (refine gTf ?_; refine kEql ?_) | refine gFf ?_ | (refine gSf (fun hc => ?_) (fun hc => ?_); rotate_left; (focus (refine kEql ?_)); rotate_right) | (refine gBf (fun hc => ?_) (fun hc => ?_); rotate_left; (focus (refine kEql ?_)); rotate_right))
        all_goals (refine ow_cons ?_; first | refine gNo ?_ | refine gUn ?_ | (refine gYes ?_; refine kMove ?_) | (refine gTf ?_; refine kMove ?_) | refine gFf ?_ | (refine gSf (fun hc => ?_) (fun hc => ?_); rotate_left; (focus (refine kMove ?_)); rotate_right) | (refine gBf (fun hc => ?_) (fun hc => ?_); rotate_left; (focus (refine kMove ?_)); rotate_right))
        all_goals (refine ow_cons ?_; first | refine gNo ?_ | refine gUn ?_ | (refine gYes ?_; refine kMove ?_) | (refine gTt ?_; refine kMove ?_) | refine gFt ?_ | (refine gSt (fun hc => ?_) (fun hc => ?_); (focus (refine kMove ?_))) | (refine gBt (fun hc => ?_) (fun hc => ?_); (focus (refine kMove ?_))))
        all_goals (refine ow_cons ?_; first | refine gNo ?_ | refine gUn ?_ | (refine gYes ?_; refine kMove ?_) | (refine gTt ?_; refine kMove ?_) | refine gFt ?_ | (refine gSt (fun hc => ?_) (fun hc => ?_); (focus (refine kMove ?_))) | (refine gBt (fun hc => ?_) (fun hc => ?_); (focus (refine kMove ?_))))
        all_goals (refine ow_cons ?_; first | refine gNo ?_ | refine gUn ?_ | (refine gYes ?_; refine kNeq ?_) | (refine gTt ?_; refine kNeq ?_) | refine gFt ?_ | (refine gSt (fun hc => ?_) (fun hc => ?_); (focus (refine kNeq ?_))) | (refine gBt (fun hc => ?_) (fun hc => ?_); (focus (refine kNeq ?_))))
        all_goals (refine ow_cons ?_; first | refine gNo ?_ | refine gUn ?_ | (refine gYes ?_; refine kPick ?_) | (refine gTf ?_; refine kPick ?_) | refine gFf ?_ | (refine gSf (fun hc => ?_) (fun hc => ?_); rotate_left; (focus (refine kPick ?_)); rotate_right) | (refine gBf (fun hc => ?_) (fun hc => ?_); rotate_left; (focus (refine kPick ?_)); rotate_right))
        all_goals refine wPick ?_
        all_goals refine ow_nil ?_)
    | (
        refine cw_region (id := 18) rfl ?_
        all_goals refine wAssign ?_
        all_goals refine ow_nil ?_)
    | (
        refine cw_region (id := 7) rfl ?_
        all_goals refine wMove ?_
        all_goals refine wAdd ?_
        all_goals refine wAssign ?_
        all_goals refine ow_nil ?_)
    | (
        refine cw_region (id := 19) rfl ?_
        all_goals refine wAssign ?_
        all_goals refine ow_nil ?_)
    | refine cw_seq ?_
    | refine tq_n ?_
    | (refine isCW ?_; first | refine cw_region rfl ?_ | refine cw_skip ?_ | refine cw_ret ?_ | refine cw_exit ?_ | refine cw_block ?_ | refine cTrue ?_ | refine cFalse ?_ | refine cT ?_ | refine cF ?_ | refine cS (fun hc => ?_) (fun hc => ?_) | refine cB (fun hc => ?_) (fun hc => ?_))
    | refine tq_ret ?_ | refine tq_exit ?_ | refine bq_n ?_ | refine bq_ret ?_ | refine bq_same ?_ | refine bq_ne rfl ?_
    | refine ow_cons ?_ | refine ow_nil ?_
    | (refine isOpK ?_; first
      | (refine isG ?_; first | refine opk_yes rfl rfl ?_ | refine opk_no rfl rfl ?_ | refine opk_no_undef rfl rfl ?_ | refine opk_g_t rfl rfl (by omega) ?_ | refine opk_g_f rfl rfl (by omega) ?_ | refine opk_g_s rfl rfl (fun hc => ?_) (fun hc => ?_) | refine opk_g_b rfl rfl (fun hc => ?_) (fun hc => ?_))
      | refine kRd ?_
      | refine kStore ?_
      | refine kStoreA ?_
      | refine kStoreR ?_
      | (refine kIdxR (fun g hg => ?_); subst hg)
      | (refine kIdxO (fun gb go hg => ?_); subst hg)
      | refine st_alloc (fun bN => ?_)
      | refine kBox (fun bN => ?_)
      | refine kBoxA (fun bN => ?_)
      | (refine st_buildSlice rfl rfl rfl rfl (fun bN => ?_))
      | (refine st_clearR rfl selA rfl (by omega) rfl rfl rfl ?_)
      | (refine st_clearR rfl selA (by omega) (by omega) rfl rfl rfl ?_)
      | (refine st_call rfl travels8 (.nil _) ?_; rintro v L' ⟨rfl, rfl⟩)
      | (refine st_call rfl new_spec (.nil _) ?_; rintro v L' ⟨b, rfl, rfl⟩))
    | refine hw_cons ?_ | refine hw_nil ?_
    | (refine isOpS ?_; first
      | (refine os_isG ?_; first | refine os_yes rfl rfl ?_ | refine os_no rfl rfl ?_ | refine os_no_undef rfl rfl ?_ | refine os_g_t rfl rfl (by omega) ?_ | refine os_g_f rfl rfl (by omega) ?_ | refine os_g_s rfl rfl (fun hc => ?_) (fun hc => ?_) | refine os_g_b rfl rfl (fun hc => ?_) (fun hc => ?_))
      | refine sRd ?_))
  refine cw_rounds (S := fun g : Nat × St × Option Nat × Nat × Int × Int × Int => [(0, .slice ad xs.length cap), (2, .bool false), (3, ptr b), (4, i6 g.2.2.2.2.2.2), (5, i6 g.2.2.2.2.1), (6, i6 g.2.2.2.2.2.1), (7, .int .i64 (g.1 : Nat))])
    (H := fun g => stR b g.2.1 g.2.2.1 g.2.2.2.1 ++ [ro ad (tInt .i64) xs]) (V := fun g => g.1 ≤ 60 ∧ TripI g.1 g.2.1 g.2.2.2.2.1 g.2.2.2.2.2.1 g.2.2.2.2.2.2) (μ := fun g => 60 - g.1) (0, newS, none, 0, 1099511627776, 0, 0)
    ⟨rfl, rfl, rfl, rfl, rfl, rfl, rfl, trivial⟩ ⟨by decide, trip_new⟩ (fun _ h => h) ?_
  rintro ⟨i, s, a, c, low, high, now⟩ e' ⟨hi, hT⟩
  simp only at hi hT
  dsimp only [upds]
  unfold stR
  by_cases hlt : i < xs.length ∧ i < 60
  · obtain ⟨hl1, hl2⟩ := hlt
    obtain ⟨x, hxi⟩ : ∃ x, xs[i]? = some x := ⟨_, List.getElem?_eq_getElem hl1⟩
    have hnb := hT.nowb
    have hn : 0 ≤ x % 18446744073709551616 % 5000 ∧ x % 18446744073709551616 % 5000 < 5000 := by omega
    generalize hN : x % 18446744073709551616 % 5000 = n at hn
    obtain ⟨s2, he, hT2⟩ := trip_round hT hl2 hn
    obtain ⟨l1, l2, l3, l4, l5, l6, l7, l8⟩ := hT2.later (by omega)
    have hv2 := hT2.ok.vary
    have hs2 := hT2.ok.smooth
    repeat' (first
      | (
          refine cw_region (id := 0) rfl ?_
          all_goals refine wAssign ?_
          all_goals refine ow_nil ?_)
      | (
          refine cw_region (id := 2) rfl ?_
          all_goals refine wAssign ?_
          all_goals refine ow_nil ?_)
      | (
          refine cw_region (id := 4) rfl ?_
          all_goals refine wAssign ?_
          all_goals refine wAssign ?_
          all_goals refine wAssign ?_
          all_goals refine ow_nil ?_)
      | (
          refine cw_region (id := 5) rfl ?_
          all_goals refine wAssign ?_
          all_goals refine ow_nil ?_)
      | (
          refine cw_region (id := 6) rfl ?_
          all_goals refine wMove ?_
          all_goals refine wMove ?_
          all_goals refine wLen ?_
          all_goals refine wLss ?_
          all_goals refine wMove ?_
          all_goals (refine ow_cons ?_; first | refine gNo ?_ | refine gUn ?_ | (refine gYes ?_; refine kMove ?_) | (refine gTt ?_; refine kMove ?_) | refine gFt ?_ | (refine gSt (fun hc => ?_) (fun hc => ?_); (focus (refine kMove ?_))) | (refine gBt (fun hc => ?_) (fun hc => ?_); (focus (refine kMove ?_))))
          all_goals (refine ow_cons ?_; first | refine gNo ?_ | refine gUn ?_ | (refine gYes ?_; refine kLss ?_) | (refine gTt ?_; refine kLss ?_) | refine gFt ?_ | (refine gSt (fun hc => ?_) (fun hc => ?_); (focus (refine kLss ?_))) | (refine gBt (fun hc => ?_) (fun hc => ?_); (focus (refine kLss ?_))))
          all_goals refine wPick ?_
          all_goals refine ow_nil ?_)
      | (
          refine cw_region (id := 8) rfl ?_
          all_goals refine wMove ?_
          all_goals refine wMove ?_
          all_goals (refine ow_cons ?_; first | refine kIndex ?_ | (refine kIdxR (fun g hg => ?_); subst hg) | (refine kIdxO (fun gb go hg => ?_); subst hg))
          all_goals refine wLoad ?_
          all_goals refine wConv ?_
          all_goals refine wRem ?_
          all_goals refine wConv ?_
          all_goals refine wAssign ?_
          all_goals refine ow_nil ?_)
      | (
          refine cw_region (id := 9) rfl ?_
          all_goals refine wMove ?_
          all_goals refine wMove ?_
          all_goals refine wMove ?_
          all_goals (refine ow_cons ?_; (refine st_call (av := [_, _, _, _, _]) rfl (tripSent b a c hT hl2) (.cons selA (.cons selA (.nil _))) ?_; rintro v L' ⟨a', c', rfl, rfl⟩))
          all_goals refine wNeq ?_
          all_goals refine ow_nil ?_)
      | (
          refine cw_region (id := 10) rfl ?_
          all_goals refine wAssign ?_
          all_goals refine ow_nil ?_)
      | (
          refine cw_region (id := 11) rfl ?_
          all_goals refine wMove ?_
          all_goals refine wMove ?_
          all_goals refine wAdd ?_
          all_goals refine wAssign ?_
          all_goals refine ow_nil ?_)
      | (
          refine cw_region (id := 12) rfl ?_
          all_goals refine wMove ?_
          all_goals refine wMove ?_
          all_goals refine wMove ?_
          all_goals (refine ow_cons ?_; refine st_rd (rd_build (vs := [.int _ _, .int _ _]) rfl) ?_)
          all_goals (refine ow_cons ?_; refine st_buildSlice (vs := [.int _ _, .int _ _]) rfl rfl rfl rfl (fun bN => ?_))
          all_goals refine wMove ?_
          all_goals (refine ow_cons ?_; (refine OpK.heap ?_ (fun w h => tr_blk_ro tSp [⟨i, i⟩] rfl selA h); refine st_call (av := [_, _, _, _]) rfl (hN ▸ tripAcked b bN a' c' hT hl2 he) (.cons selA (.cons selA (.cons selA (.nil _)))) ?_; rintro v L' ⟨a1, c1, a2, c2, rfl, rfl⟩))
          all_goals refine wMove ?_
          all_goals refine wExtract ?_
          all_goals refine wExtract ?_
          all_goals refine wExtract ?_
          all_goals refine wAssign ?_
          all_goals refine wAssign ?_
          all_goals refine wAssign ?_
          all_goals refine ow_nil ?_)
      | (
          refine cw_region (id := 13) rfl ?_
          all_goals refine wMove ?_
          all_goals refine wNeq ?_
          all_goals refine ow_nil ?_)
      | (
          refine cw_region (id := 14) rfl ?_
          all_goals refine wAssign ?_
          all_goals refine ow_nil ?_)
      | (
          refine cw_region (id := 15) rfl ?_
          all_goals refine wMove ?_
          all_goals refine wMove ?_
          all_goals refine wMin ?_
          all_goals refine wMove ?_
          all_goals refine wMove ?_
          all_goals refine wMax ?_
          all_goals refine wAssign ?_
          all_goals refine wAssign ?_
          all_goals refine ow_nil ?_)
      | (
          refine cw_region (id := 16) rfl ?_
          all_goals refine wMove ?_
          all_goals (refine ow_cons ?_; (refine st_call (av := [_]) rfl (trip_spec b s2 a' c') (.cons selA (.nil _)) ?_; rintro v L' ⟨rfl, rfl⟩))
          all_goals refine wMove ?_
          all_goals refine wExtract ?_
          all_goals refine wExtract ?_
          all_goals refine wAssign ?_
          all_goals refine wAssign ?_
          all_goals refine ow_nil ?_)
      | (
          refine cw_region (id := 17) rfl ?_
          all_goals refine wMove ?_
          all_goals refine wMove ?_
          all_goals refine wSub ?_
          all_goals refine wLss ?_
          all_goals refine wMove ?_
          all_goals (refine ow_cons ?_; first | refine gNo ?_ | refine gUn ?_ | (refine gYes ?_; refine kMove ?_) | (refine gTf ?_; refine kMove ?_) | refine gFf ?_ | (refine gSf (fun hc => ?_) (fun hc => ?_); rotate_left; (focus (refine kMove ?_)); rotate_right) | (refine gBf (fun hc => ?_) (fun hc => ?_); rotate_left; (focus (refine kMove ?_)); rotate_right))
          all_goals (refine ow_cons ?_; first | refine gNo ?_ | refine gUn ?_ | (refine gYes ?_; refine kMove ?_) | (refine gTf ?_; refine kMove ?_) | refine gFf ?_ | (refine gSf (fun hc => ?_) (fun hc => ?_); rotate_left; (focus (refine kMove ?_)); rotate_right) | (refine gBf (fun hc => ?_) (fun hc => ?_); rotate_left; (focus (refine kMove ?_)); rotate_right))
          all_goals (refine ow_cons ?_; first | refine gNo ?_ | refine gUn ?_ | (refine gYes ?_; refine kGtr ?_) | (refine gTf ?_; refine kGtr ?_) | refine gFf ?_ | (refine gSf (fun hc => ?_) (fun hc => ?_); rotate_left; (focus (refine kGtr ?_)); rotate_right) | (refine gBf (fun hc => ?_) (fun hc => ?_); rotate_left; (focus (refine kGtr ?_)); rotate_right))
          all_goals refine wPick ?_
          all_goals refine wMove ?_
          all_goals (refine ow_cons ?_; first | refine gNo ?_ | refine gUn ?_ | (refine gYes ?_; refine kMove ?_) | (refine gTf ?_; refine kMove ?_) | refine gFf ?_ | (refine gSf (fun hc => ?_) (fun hc => ?_); rotate_left; (focus (refine kMove ?_)); rotate_right) | (refine gBf (fun hc => ?_) (fun hc => ?_); rotate_left; (focus (refine kMove ?_)); rotate_right))
          all_goals (refine ow_cons ?_; first | refine gNo ?_ | refine gUn ?_ | (refine gYes ?_; refine kLss ?_) | (refine gTf ?_; refine kLss ?_) | refine gFf ?_ | (refine gSf (fun hc => ?_) (fun hc => ?_); rotate_left; (focus (refine kLss ?_)); rotate_right) | (refine gBf (fun hc => ?_) (fun hc => ?_); rotate_left; (focus (refine kLss ?_)); rotate_right))
          all_goals refine wPick ?_
          all_goals refine wMove ?_
          all_goals (refine ow_cons ?_; first | refine gNo ?_ | refine gUn ?_ | (refine gYes ?_; refine kMove ?_) | (refine gTf ?_; refine kMove ?_) | refine gFf ?_ | (refine gSf (fun hc => ?_) (fun hc => ?_); rotate_left; (focus (refine kMove ?_)); rotate_right) | (refine gBf (fun hc => ?_) (fun hc => ?_); rotate_left; (focus (refine kMove ?_)); rotate_right))
          all_goals (refine ow_cons ?_; first | refine gNo ?_ | refine gUn ?_ | (refine gYes ?_; refine kMove ?_) | (refine gTf ?_; refine kMove ?_) | refine gFf ?_ | (refine gSf (fun hc => ?_) (fun hc => ?_); rotate_left; (focus (refine kMove ?_)); rotate_right) | (refine gBf (fun hc => ?_) (fun hc => ?_); rotate_left; (focus (refine kMove ?_)); rotate_right))
          all_goals (refine ow_cons ?_; first | refine gNo ?_ | refine gUn ?_ | (refine gYes ?_; refine kGtr ?_) | (refine gTf ?_; refine kGtr ?_) | refine gFf ?_ | (refine gSf (fun hc => ?_) (fun hc => ?_); rotate_left; (focus (refine kGtr ?_)); rotate_right) | (refine gBf (fun hc => ?_) (fun hc => ?_); rotate_left; (focus (refine kGtr ?_)); rotate_right))
          all_goals refine wPick ?_
          all_goals refine wMove ?_
          all_goals (refine ow_cons ?_; first | refine gNo ?_ | refine gUn ?_ | (refine gYes ?_; refine kMove ?_) | (refine gTf ?_; refine kMove ?_) | refine gFf ?_ | (refine gSf (fun hc => ?_) (fun hc => ?_); rotate_left; (focus (refine kMove ?_)); rotate_right) | (refine gBf (fun hc => ?_) (fun hc => ?_); rotate_left; (focus (refine kMove ?_)); rotate_right))
          all_goals (refine ow_cons ?_; first | refine gNo ?_ | refine gUn ?_ | (refine gYes ?_; refine kMove ?_) | (refine gTf ?_; refine kMove ?_) | refine gFf ?_ | (refine gSf (fun hc => ?_) (fun hc => ?_); rotate_left; (focus (refine kMove ?_)); rotate_right) | (refine gBf (fun hc => ?_) (fun hc => ?_); rotate_left; (focus (refine kMove ?_)); rotate_right))
          all_goals (refine ow_cons ?_; first | refine gNo ?_ | refine gUn ?_ | (refine gYes ?_; refine kEql ?_) | (refine gTf ?_; refine kEql ?_) | refine gFf ?_ | (refine gSf (fun hc => ?_) (fun hc => ?_); rotate_left; (focus (refine kEql ?_)); rotate_right) | (refine gBf (fun hc => ?_) (fun hc => ?_); rotate_left; (focus (refine kEql ?_)); rotate_right))
          all_goals (refine ow_cons ?_; first | refine gNo ?_ | refine gUn ?_ | (refine gYes ?_; refine kMove ?_) | (refine gTf ?_; refine kMove ?_) | refine gFf ?_ | (refine gSf (fun hc => ?_) (fun hc => ?_); rotate_left; (focus (refine kMove ?_)); rotate_right) | (refine gBf (fun hc => ?_) (fun hc => ?_); rotate_left; (focus (refine kMove ?_)); rotate_right))
          all_goals (refine ow_cons ?_; first | refine gNo ?_ | refine gUn ?_ | (refine gYes ?_; refine kMove ?_) | (refine gTt ?_; refine kMove ?_) | refine gFt ?_ | (refine gSt (fun hc => ?_) (fun hc => ?_); (focus (refine kMove ?_))) | (refine gBt (fun hc => ?_) (fun hc => ?_); (focus (refine kMove ?_))))
          all_goals (refine ow_cons ?_; first | refine gNo ?_ | refine gUn ?_ | (refine gYes ?_; refine kMove ?_) | (refine gTt ?_; refine kMove ?_) | refine gFt ?_ | (refine gSt (fun hc => ?_) (fun hc => ?_); (focus (refine kMove ?_))) | (refine gBt (fun hc => ?_) (fun hc => ?_); (focus (refine kMove ?_))))
          all_goals (refine ow_cons ?_; first | refine gNo ?_ | refine gUn ?_ | (refine gYes ?_; refine kNeq ?_) | (refine gTt ?_; refine kNeq ?_) | refine gFt ?_ | (refine gSt (fun hc => ?_) (fun hc => ?_); (focus (refine kNeq ?_))) | (refine gBt (fun hc => ?_) (fun hc => ?_); (focus (refine kNeq ?_))))
          all_goals (refine ow_cons ?_; first | refine gNo ?_ | refine gUn ?_ | (refine gYes ?_; refine kPick ?_) | (refine gTf ?_; refine kPick ?_) | refine gFf ?_ | (refine gSf (fun hc => ?_) (fun hc => ?_); rotate_left; (focus (refine kPick ?_)); rotate_right) | (refine gBf (fun hc => ?_) (fun hc => ?_); rotate_left; (focus (refine kPick ?_)); rotate_right))
          all_goals refine wPick ?_
          all_goals refine ow_nil ?_)
      | (
          refine cw_region (id := 18) rfl ?_
          all_goals refine wAssign ?_
          all_goals refine ow_nil ?_)
      | (
          refine cw_region (id := 7) rfl ?_
          all_goals refine wMove ?_
          all_goals refine wAdd ?_
          all_goals refine wAssign ?_
          all_goals refine ow_nil ?_)
      | (
          refine cw_region (id := 19) rfl ?_
          all_goals refine wAssign ?_
          all_goals refine ow_nil ?_)
      | refine cw_seq ?_
      | refine tq_n ?_
      | (refine isCW ?_; first | refine cw_region rfl ?_ | refine cw_skip ?_ | refine cw_ret ?_ | refine cw_exit ?_ | refine cw_block ?_ | refine cTrue ?_ | refine cFalse ?_ | refine cT ?_ | refine cF ?_ | refine cS (fun hc => ?_) (fun hc => ?_) | refine cB (fun hc => ?_) (fun hc => ?_))
      | refine tq_ret ?_ | refine tq_exit ?_ | refine bq_n ?_ | refine bq_ret ?_ | refine bq_same ?_ | refine bq_ne rfl ?_
      | refine ow_cons ?_ | refine ow_nil ?_
      | (refine isOpK ?_; first
        | (refine isG ?_; first | refine opk_yes rfl rfl ?_ | refine opk_no rfl rfl ?_ | refine opk_no_undef rfl rfl ?_ | refine opk_g_t rfl rfl (by omega) ?_ | refine opk_g_f rfl rfl (by omega) ?_ | refine opk_g_s rfl rfl (fun hc => ?_) (fun hc => ?_) | refine opk_g_b rfl rfl (fun hc => ?_) (fun hc => ?_))
        | refine kRd ?_
        | refine kStore ?_
        | refine kStoreA ?_
        | refine kStoreR ?_
        | (refine kIdxR (fun g hg => ?_); subst hg)
        | (refine kIdxO (fun gb go hg => ?_); subst hg)
        | refine st_alloc (fun bN => ?_)
        | refine kBox (fun bN => ?_)
        | refine kBoxA (fun bN => ?_)
        | (refine st_buildSlice rfl rfl rfl rfl (fun bN => ?_))
        | (refine st_clearR rfl selA rfl (by omega) rfl rfl rfl ?_)
        | (refine st_clearR rfl selA (by omega) (by omega) rfl rfl rfl ?_)
        | (refine st_call (av := [_, _, _, _, _]) rfl (tripSent b a c hT hl2) (.cons selA (.cons selA (.nil _))) ?_; rintro v L' ⟨a', c', rfl, rfl⟩)
        | (refine OpK.heap ?_ (fun w h => tr_blk_ro tSp [⟨i, i⟩] rfl selA h); refine st_call (av := [_, _, _, _]) rfl (hN ▸ tripAcked b bN a' c' hT hl2 he) (.cons selA (.cons selA (.cons selA (.nil _)))) ?_; rintro v L' ⟨a1, c1, a2, c2, rfl, rfl⟩)
        | (refine st_call (av := [_]) rfl (trip_spec b s2 a' c') (.cons selA (.nil _)) ?_; rintro v L' ⟨rfl, rfl⟩))
      | refine hw_cons ?_ | refine hw_nil ?_
      | (refine isOpS ?_; first
        | (refine os_isG ?_; first | refine os_yes rfl rfl ?_ | refine os_no rfl rfl ?_ | refine os_no_undef rfl rfl ?_ | refine os_g_t rfl rfl (by omega) ?_ | refine os_g_f rfl rfl (by omega) ?_ | refine os_g_s rfl rfl (fun hc => ?_) (fun hc => ?_) | refine os_g_b rfl rfl (fun hc => ?_) (fun hc => ?_))
        | refine sRd ?_))
    all_goals
      subst hN
      exact lp_end (i + 1, s2, a', c', min low _, max high _, now + _) ⟨rfl, rfl, rfl, rfl, rfl, rfl, rfl, trivial⟩ ⟨by simp only; omega, hT2⟩ (by simp only; omega) (fun _ h => pick3 h selA selA selA)
  · skip
    repeat' (first
      | (
          refine cw_region (id := 0) rfl ?_
          all_goals refine wAssign ?_
          all_goals refine ow_nil ?_)
      | (
          refine cw_region (id := 2) rfl ?_
          all_goals refine wAssign ?_
          all_goals refine ow_nil ?_)
      | (
          refine cw_region (id := 4) rfl ?_
          all_goals refine wAssign ?_
          all_goals refine wAssign ?_
          all_goals refine wAssign ?_
          all_goals refine ow_nil ?_)
      | (
          refine cw_region (id := 5) rfl ?_
          all_goals refine wAssign ?_
          all_goals refine ow_nil ?_)
      | (
          refine cw_region (id := 6) rfl ?_
          all_goals refine wMove ?_
          all_goals refine wMove ?_
          all_goals refine wLen ?_
          all_goals refine wLss ?_
          all_goals refine wMove ?_
          all_goals (refine ow_cons ?_; first | refine gNo ?_ | refine gUn ?_ | (refine gYes ?_; refine kMove ?_) | (refine gTt ?_; refine kMove ?_) | refine gFt ?_ | (refine gSt (fun hc => ?_) (fun hc => ?_); (focus (refine kMove ?_))) | (refine gBt (fun hc => ?_) (fun hc => ?_); (focus (refine kMove ?_))))
          all_goals (refine ow_cons ?_; first | refine gNo ?_ | refine gUn ?_ | (refine gYes ?_; refine kLss ?_) | (refine gTt ?_; refine kLss ?_) | refine gFt ?_ | (refine gSt (fun hc => ?_) (fun hc => ?_); (focus (refine kLss ?_))) | (refine gBt (fun hc => ?_) (fun hc => ?_); (focus (refine kLss ?_))))
          all_goals refine wPick ?_
          all_goals refine ow_nil ?_)
      | (
          refine cw_region (id := 8) rfl ?_
          all_goals refine wMove ?_
          all_goals refine wMove ?_
          all_goals (refine ow_cons ?_; first | refine kIndex ?_ | (refine kIdxR (fun g hg => ?_); subst hg) | (refine kIdxO (fun gb go hg => ?_); subst hg))
          all_goals refine wLoad ?_
          all_goals refine wConv ?_
          all_goals refine wRem ?_
          all_goals refine wConv ?_
          all_goals refine wAssign ?_
          all_goals refine ow_nil ?_)
      | (
          refine cw_region (id := 10) rfl ?_
          all_goals refine wAssign ?_
          all_goals refine ow_nil ?_)
      | (
          refine cw_region (id := 11) rfl ?_
          all_goals refine wMove ?_
          all_goals refine wMove ?_
          all_goals refine wAdd ?_
          all_goals refine wAssign ?_
          all_goals refine ow_nil ?_)
      | (
          refine cw_region (id := 13) rfl ?_
          all_goals refine wMove ?_
          all_goals refine wNeq ?_
          all_goals refine ow_nil ?_)
      | (
          refine cw_region (id := 14) rfl ?_
          all_goals refine wAssign ?_
          all_goals refine ow_nil ?_)
      | (
          refine cw_region (id := 15) rfl ?_
          all_goals refine wMove ?_
          all_goals refine wMove ?_
          all_goals refine wMin ?_
          all_goals refine wMove ?_
          all_goals refine wMove ?_
          all_goals refine wMax ?_
          all_goals refine wAssign ?_
          all_goals refine wAssign ?_
          all_goals refine ow_nil ?_)
      | (
          refine cw_region (id := 17) rfl ?_
          all_goals refine wMove ?_
          all_goals refine wMove ?_
          all_goals refine wSub ?_
          all_goals refine wLss ?_
          all_goals refine wMove ?_
          all_goals (refine ow_cons ?_; first | refine gNo ?_ | refine gUn ?_ | (refine gYes ?_; refine kMove ?_) | (refine gTf ?_; refine kMove ?_) | refine gFf ?_ | (refine gSf (fun hc => ?_) (fun hc => ?_); rotate_left; (focus (refine kMove ?_)); rotate_right) | (refine gBf (fun hc => ?_) (fun hc => ?_); rotate_left; (focus (refine kMove ?_)); rotate_right))
          all_goals (refine ow_cons ?_; first | refine gNo ?_ | refine gUn ?_ | (refine gYes ?_; refine kMove ?_) | (refine gTf ?_; refine kMove ?_) | refine gFf ?_ | (refine gSf (fun hc => ?_) (fun hc => ?_); rotate_left; (focus (refine kMove ?_)); rotate_right) | (refine gBf (fun hc => ?_) (fun hc => ?_); rotate_left; (focus (refine kMove ?_)); rotate_right))
          all_goals (refine ow_cons ?_; first | refine gNo ?_ | refine gUn ?_ | (refine gYes ?_; refine kGtr ?_) | (refine gTf ?_; refine kGtr ?_) | refine gFf ?_ | (refine gSf (fun hc => ?_) (fun hc => ?_); rotate_left; (focus (refine kGtr ?_)); rotate_right) | (refine gBf (fun hc => ?_) (fun hc => ?_); rotate_left; (focus (refine kGtr ?_)); rotate_right))
          all_goals refine wPick ?_
          all_goals refine wMove ?_
          all_goals (refine ow_cons ?_; first | refine gNo ?_ | refine gUn ?_ | (refine gYes ?_; refine kMove ?_) | (refine gTf ?_; refine kMove ?_) | refine gFf ?_ | (refine gSf (fun hc => ?_) (fun hc => ?_); rotate_left; (focus (refine kMove ?_)); rotate_right) | (refine gBf (fun hc => ?_) (fun hc => ?_); rotate_left; (focus (refine kMove ?_)); rotate_right))
          all_goals (refine ow_cons ?_; first | refine gNo ?_ | refine gUn ?_ | (refine gYes ?_; refine kLss ?_) | (refine gTf ?_; refine kLss ?_) | refine gFf ?_ | (refine gSf (fun hc => ?_) (fun hc => ?_); rotate_left; (focus (refine kLss ?_)); rotate_right) | (refine gBf (fun hc => ?_) (fun hc => ?_); rotate_left; (focus (refine kLss ?_)); rotate_right))
          all_goals refine wPick ?_
          all_goals refine wMove ?_
          all_goals (refine ow_cons ?_; first | refine gNo ?_ | refine gUn ?_ | (refine gYes ?_; refine kMove ?_) | (refine gTf ?_; refine kMove ?_) | refine gFf ?_ | (refine gSf (fun hc => ?_) (fun hc => ?_); rotate_left; (focus (refine kMove ?_)); rotate_right) | (refine gBf (fun hc => ?_) (fun hc => ?_); rotate_left; (focus (refine kMove ?_)); rotate_right))
          all_goals (refine ow_cons ?_; first | refine gNo ?_ | refine gUn ?_ | (refine gYes ?_; refine kMove ?_) | (refine gTf ?_; refine kMove ?_) | refine gFf ?_ | (refine gSf (fun hc => ?_) (fun hc => ?_); rotate_left; (focus (refine kMove ?_)); rotate_right) | (refine gBf (fun hc => ?_) (fun hc => ?_); rotate_left; (focus (refine kMove ?_)); rotate_right))
          all_goals (refine ow_cons ?_; first | refine gNo ?_ | refine gUn ?_ | (refine gYes ?_; refine kGtr ?_) | (refine gTf ?_; refine kGtr ?_) | refine gFf ?_ | (refine gSf (fun hc => ?_) (fun hc => ?_); rotate_left; (focus (refine kGtr ?_)); rotate_right) | (refine gBf (fun hc => ?_) (fun hc => ?_); rotate_left; (focus (refine kGtr ?_)); rotate_right))
          all_goals refine wPick ?_
          all_goals refine wMove ?_
          all_goals (refine ow_cons ?_; first | refine gNo ?_ | refine gUn ?_ | (refine gYes ?_; refine kMove ?_) | (refine gTf ?_; refine kMove ?_) | refine gFf ?_ | (refine gSf (fun hc => ?_) (fun hc => ?_); rotate_left; (focus (refine kMove ?_)); rotate_right) | (refine gBf (fun hc => ?_) (fun hc => ?_); rotate_left; (focus (refine kMove ?_)); rotate_right))
          all_goals (refine ow_cons ?_; first | refine gNo ?_ | refine gUn ?_ | (refine gYes ?_; refine kMove ?_) | (refine gTf ?_; refine kMove ?_) | refine gFf ?_ | (refine gSf (fun hc => ?_) (fun hc => ?_); rotate_left; (focus (refine kMove ?_)); rotate_right) | (refine gBf (fun hc => ?_) (fun hc => ?_); rotate_left; (focus (refine kMove ?_)); rotate_right))
          all_goals (refine ow_cons ?_; first | refine gNo ?_ | refine gUn ?_ | (refine gYes ?_; refine kEql ?_) | (refine gTf ?_; refine kEql ?_) | refine gFf ?_ | (refine gSf (fun hc => ?_) (fun hc => ?_); rotate_left; (focus (refine kEql ?_)); rotate_right) | (refine gBf (fun hc => ?_) (fun hc => ?_); rotate_left; (focus (refine kEql ?_)); rotate_right))
          all_goals (refine ow_cons ?_; first | refine gNo ?_ | refine gUn ?_ | (refine gYes ?_; refine kMove ?_) | (refine gTf ?_; refine kMove ?_) | refine gFf ?_ | (refine gSf (fun hc => ?_) (fun hc => ?_); rotate_left; (focus (refine kMove ?_)); rotate_right) | (refine gBf (fun hc => ?_) (fun hc => ?_); rotate_left; (focus (refine kMove ?_)); rotate_right))
          all_goals (refine ow_cons ?_; first | refine gNo ?_ | refine gUn ?_ | (refine gYes ?_; refine kMove ?_) | (refine gTt ?_; refine kMove ?_) | refine gFt ?_ | (refine gSt (fun hc => ?_) (fun hc => ?_); (focus (refine kMove ?_))) | (refine gBt (fun hc => ?_) (fun hc => ?_); (focus (refine kMove ?_))))
          all_goals (refine ow_cons ?_; first | refine gNo ?_ | refine gUn ?_ | (refine gYes ?_; refine kMove ?_) | (refine gTt ?_; refine kMove ?_) | refine gFt ?_ | (refine gSt (fun hc => ?_) (fun hc => ?_); (focus (refine kMove ?_))) | (refine gBt (fun hc => ?_) (fun hc => ?_); (focus (refine kMove ?_))))
          all_goals (refine ow_cons ?_; first | refine gNo ?_ | refine gUn ?_ | (refine gYes ?_; refine kNeq ?_) | (refine gTt ?_; refine kNeq ?_) | refine gFt ?_ | (refine gSt (fun hc => ?_) (fun hc => ?_); (focus (refine kNeq ?_))) | (refine gBt (fun hc => ?_) (fun hc => ?_); (focus (refine kNeq ?_))))
          all_goals (refine ow_cons ?_; first | refine gNo ?_ | refine gUn ?_ | (refine gYes ?_; refine kPick ?_) | (refine gTf ?_; refine kPick ?_) | refine gFf ?_ | (refine gSf (fun hc => ?_) (fun hc => ?_); rotate_left; (focus (refine kPick ?_)); rotate_right) | (refine gBf (fun hc => ?_) (fun hc => ?_); rotate_left; (focus (refine kPick ?_)); rotate_right))
          all_goals refine wPick ?_
          all_goals refine ow_nil ?_)
      | (
          refine cw_region (id := 18) rfl ?_
          all_goals refine wAssign ?_
          all_goals refine ow_nil ?_)
      | (
          refine cw_region (id := 7) rfl ?_
          all_goals refine wMove ?_
          all_goals refine wAdd ?_
          all_goals refine wAssign ?_
          all_goals refine ow_nil ?_)
      | (
          refine cw_region (id := 19) rfl ?_
          all_goals refine wAssign ?_
          all_goals refine ow_nil ?_)
      | refine cw_seq ?_
      | refine tq_n ?_
      | (refine isCW ?_; first | refine cw_region rfl ?_ | refine cw_skip ?_ | refine cw_ret ?_ | refine cw_exit ?_ | refine cw_block ?_ | refine cTrue ?_ | refine cFalse ?_ | refine cT ?_ | refine cF ?_ | refine cS (fun hc => ?_) (fun hc => ?_) | refine cB (fun hc => ?_) (fun hc => ?_))
      | refine tq_ret ?_ | refine tq_exit ?_ | refine bq_n ?_ | refine bq_ret ?_ | refine bq_same ?_ | refine bq_ne rfl ?_
      | refine ow_cons ?_ | refine ow_nil ?_
      | (refine isOpK ?_; first
        | (refine isG ?_; first | refine opk_yes rfl rfl ?_ | refine opk_no rfl rfl ?_ | refine opk_no_undef rfl rfl ?_ | refine opk_g_t rfl rfl (by omega) ?_ | refine opk_g_f rfl rfl (by omega) ?_ | refine opk_g_s rfl rfl (fun hc => ?_) (fun hc => ?_) | refine opk_g_b rfl rfl (fun hc => ?_) (fun hc => ?_))
        | refine kRd ?_
        | refine kStore ?_
        | refine kStoreA ?_
        | refine kStoreR ?_
        | (refine kIdxR (fun g hg => ?_); subst hg)
        | (refine kIdxO (fun gb go hg => ?_); subst hg)
        | refine st_alloc (fun bN => ?_)
        | refine kBox (fun bN => ?_)
        | refine kBoxA (fun bN => ?_)
        | (refine st_buildSlice rfl rfl rfl rfl (fun bN => ?_))
        | (refine st_clearR rfl selA rfl (by omega) rfl rfl rfl ?_)
        | (refine st_clearR rfl selA (by omega) (by omega) rfl rfl rfl ?_))
      | refine hw_cons ?_ | refine hw_nil ?_
      | (refine isOpS ?_; first
        | (refine os_isG ?_; first | refine os_yes rfl rfl ?_ | refine os_no rfl rfl ?_ | refine os_no_undef rfl rfl ?_ | refine os_g_t rfl rfl (by omega) ?_ | refine os_g_f rfl rfl (by omega) ?_ | refine os_g_s rfl rfl (fun hc => ?_) (fun hc => ?_) | refine os_g_b rfl rfl (fun hc => ?_) (fun hc => ?_))
        | refine sRd ?_))
    all_goals exact retQ_ret (retV_tmps [2] rfl rfl) ⟨rfl, rfl⟩ (fun _ _ h => pick1 h selA)
end Go.Proofs.Ytomaldjedncjoaa.E
