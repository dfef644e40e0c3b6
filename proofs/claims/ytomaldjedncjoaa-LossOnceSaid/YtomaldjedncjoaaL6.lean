/-
The layer 'loss': Fire.
Conditions: each is said with its statement.
-/
import Derived.Test.YtomaldjedncjoaaM1
set_option linter.unusedVariables false
namespace Go.Proofs.Ytomaldjedncjoaa.E
open Go
set_option maxRecDepth 100000
set_option maxHeartbeats 4000000
def St.fire (s : St) (t : Int) : St × List Int × Bool × Int :=
  if s.now ≤ t ∧ t ≤ 1099511627776 then
    if ({ s with now := t } : St).timer.2.1 = false ∨ ({ s with now := t } : St).timer.1 > t then ({ s with now := t }, [], false, 0)
    else if ({ s with now := t } : St).timer.2.2 = true then (({ s with now := t } : St).give t, (s.waits.filter (({ s with now := t } : St).lost t)).map (·.number), false, 0)
    else ({ s with now := t, tries := min (s.tries + 1) 5 }, [], true, 0)
  else (s, [], false, 1)
def fireV (a' : Option Nat) (cap' : Nat) (r : St × List Int × Bool × Int) : Value := .tuple #[.slice (oad a') r.2.1.length cap', .bool r.2.2.1, i6 r.2.2.2]
theorem fire13 (b : Nat) (s : St) (a : Option Nat) (cap : Nat) (t : Int) (ok : s.Ok) :
    Spec Go.Proofs.Try.prog 13 #[ptr b, i6 t] (stR b s a cap) (fun v L => ∃ a' cap', v = fireV a' cap' (s.fire t) ∧ L = stR b (s.fire t).1 a cap ++ [row a' 3 cap' (tInt .i64) (s.fire t).2.1]) := by
  refine spec_of (args := [ptr b, i6 t]) Go.Proofs.Try.func13 rfl rfl fun w0 hw0 => ?_
  have hn := ok.now
  have htr := ok.tries
  unfold stR
  repeat' ((fail_if_success (refine isSeqR (id := 4) ?_)); first
    | (
        refine cw_region (id := 0) rfl ?_
        all_goals refine wAssign ?_
        all_goals refine wAssign ?_
        all_goals refine wAssign ?_
        all_goals refine ow_nil ?_)
    | (
        refine cw_region (id := 1) rfl ?_
        all_goals refine wMove ?_
        all_goals refine wMove ?_
        all_goals (refine ow_cons ?_; (refine st_call (av := [_, _]) rfl (time_spec b s a cap t) (.cons (.head _ _) (.nil _)) ?_; rintro v L' ⟨rfl, rfl⟩))
        all_goals refine wNot ?_
        all_goals refine ow_nil ?_)
    | (
        refine cw_region (id := 2) rfl ?_
        all_goals refine wAssign ?_
        all_goals refine wAssign ?_
        all_goals refine wAssign ?_
        all_goals refine ow_nil ?_)
    | (
        refine cw_region (id := 3) rfl ?_
        all_goals refine wMove ?_
        all_goals refine wMove ?_
        all_goals refine wCheck ?_
        all_goals refine wField ?_
        all_goals (refine ow_cons ?_; first | refine kStore ?_ | refine kStoreA ?_ | refine kStoreR ?_)
        all_goals refine ow_nil ?_)
    | (
        refine cw_region (id := 5) rfl ?_
        all_goals refine wMove ?_
        all_goals refine wNot ?_
        all_goals refine wMove ?_
        all_goals (refine ow_cons ?_; first | refine gNo ?_ | refine gUn ?_ | (refine gYes ?_; refine kMove ?_) | (refine gTf ?_; refine kMove ?_) | refine gFf ?_ | (refine gSf (fun hc => ?_) (fun hc => ?_); rotate_left; (focus (refine kMove ?_)); rotate_right) | (refine gBf (fun hc => ?_) (fun hc => ?_); rotate_left; (focus (refine kMove ?_)); rotate_right))
        all_goals (refine ow_cons ?_; first | refine gNo ?_ | refine gUn ?_ | (refine gYes ?_; refine kMove ?_) | (refine gTf ?_; refine kMove ?_) | refine gFf ?_ | (refine gSf (fun hc => ?_) (fun hc => ?_); rotate_left; (focus (refine kMove ?_)); rotate_right) | (refine gBf (fun hc => ?_) (fun hc => ?_); rotate_left; (focus (refine kMove ?_)); rotate_right))
        all_goals (refine ow_cons ?_; first | refine gNo ?_ | refine gUn ?_ | (refine gYes ?_; refine kGtr ?_) | (refine gTf ?_; refine kGtr ?_) | refine gFf ?_ | (refine gSf (fun hc => ?_) (fun hc => ?_); rotate_left; (focus (refine kGtr ?_)); rotate_right) | (refine gBf (fun hc => ?_) (fun hc => ?_); rotate_left; (focus (refine kGtr ?_)); rotate_right))
        all_goals refine wPick ?_
        all_goals refine wAssign ?_
        all_goals refine ow_nil ?_)
    | (
        refine cw_region (id := 6) rfl ?_
        all_goals refine wAssign ?_
        all_goals refine wAssign ?_
        all_goals refine wAssign ?_
        all_goals refine ow_nil ?_)
    | (
        refine cw_region (id := 7) rfl ?_
        all_goals refine wMove ?_
        all_goals refine wAssign ?_
        all_goals refine ow_nil ?_)
    | (
        refine cw_region (id := 9) rfl ?_
        all_goals refine wMove ?_
        all_goals refine wMove ?_
        all_goals refine wCheck ?_
        all_goals refine wField ?_
        all_goals refine wLoad ?_
        all_goals refine wAdd ?_
        all_goals refine wMin ?_
        all_goals refine wCheck ?_
        all_goals refine wField ?_
        all_goals (refine ow_cons ?_; first | refine kStore ?_ | refine kStoreA ?_ | refine kStoreR ?_)
        all_goals refine ow_nil ?_)
    | (
        refine cw_region (id := 10) rfl ?_
        all_goals refine wAssign ?_
        all_goals refine wAssign ?_
        all_goals refine wAssign ?_
        all_goals refine ow_nil ?_)
    | refine cw_seq ?_
    | refine tq_n ?_
    | (refine isCW ?_; first | refine cw_region rfl ?_ | refine cw_skip ?_ | refine cw_ret ?_ | refine cw_exit ?_ | refine cw_block ?_ | refine cTrue ?_ | refine cFalse ?_ | refine cT ?_ | refine cF ?_ | refine cS (fun hc => ?_) (fun hc => ?_) | refine cB (fun hc => ?_) (fun hc => ?_))
    | refine tq_ret ?_ | refine tq_exit ?_ | refine bq_n ?_ | refine bq_ret ?_ | refine bq_same ?_ | refine bq_ne rfl ?_
    | refine ow_cons ?_ | refine ow_nil ?_
    | (refine isOpK ?_; first
      | (refine isG ?_; first | refine opk_yes rfl rfl ?_ | refine opk_no rfl rfl ?_ | refine opk_no_undef rfl rfl ?_ | refine opk_g_t rfl rfl (by omega) ?_ | refine opk_g_f rfl rfl (by omega) ?_ | refine opk_g_s rfl rfl (fun hc => ?_) (fun hc => ?_) | refine opk_g_b rfl rfl (fun hc => ?_) (fun hc => ?_))
      | refine kRd ?_
      | refine kStore ?_
      | refine kStoreA ?_
      | refine kStoreR ?_
      | (refine kIdxR (fun g hg => ?_); subst hg)
      | (refine kIdxO (fun gb go hg => ?_); subst hg)
      | refine st_alloc (fun bN => ?_)
      | refine kBox (fun bN => ?_)
      | refine kBoxA (fun bN => ?_)
      | (refine st_buildSlice rfl rfl rfl rfl (fun bN => ?_))
      | (refine st_clearR rfl selA rfl (by omega) rfl rfl rfl ?_)
      | (refine st_clearR rfl selA (by omega) (by omega) rfl rfl rfl ?_)
      | (refine st_call (av := [_, _]) rfl (time_spec b s a cap t) (.cons (.head _ _) (.nil _)) ?_; rintro v L' ⟨rfl, rfl⟩))
    | refine hw_cons ?_ | refine hw_nil ?_
    | (refine isOpS ?_; first
      | (refine os_isG ?_; first | refine os_yes rfl rfl ?_ | refine os_no rfl rfl ?_ | refine os_no_undef rfl rfl ?_ | refine os_g_t rfl rfl (by omega) ?_ | refine os_g_f rfl rfl (by omega) ?_ | refine os_g_s rfl rfl (fun hc => ?_) (fun hc => ?_) | refine os_g_b rfl rfl (fun hc => ?_) (fun hc => ?_))
      | refine sRd ?_))
  · have hf : s.fire t = (s, [], false, 1) := by unfold St.fire; rw [if_neg hc]
    rw [hf]
    exact retQ_ret (retV_tmps [4, 5, 6] rfl rfl) ⟨none, 0, rfl, rfl⟩ (fun _ _ h => pick3 (tr_addNil 3 (tInt .i64) h) selA selA selA)
  · have hf : s.fire t = if ({ s with now := t } : St).timer.2.1 = false ∨ ({ s with now := t } : St).timer.1 > t then ({ s with now := t }, [], false, 0)
        else if ({ s with now := t } : St).timer.2.2 = true then (({ s with now := t } : St).give t, (({ s with now := t } : St).waits.filter (({ s with now := t } : St).lost t)).map (·.number), false, 0)
        else ({ ({ s with now := t } : St) with tries := min (({ s with now := t } : St).tries + 1) 5 }, [], true, 0) := by unfold St.fire; rw [if_pos (by omega)]
    have ok1 := now_ok ok (dnot hc)
    refine CW.heap (L' := stR b { s with now := t } a cap) ?_ ?_
    rotate_left
    · intro w h
      exact pick2 h selA selA
    generalize ({ s with now := t } : St) = s1 at hf ok1 ⊢
    have hw1 := ok1.window
    have ht1 := ok1.tries
    have hn1 := ok1.now
    have hl1 := ok1.len
    have hb1 := ok1.best
    have htp := ok1.top
    unfold stR
    repeat' (first
      | (
          refine cw_region (id := 0) rfl ?_
          all_goals refine wAssign ?_
          all_goals refine wAssign ?_
          all_goals refine wAssign ?_
          all_goals refine ow_nil ?_)
      | (
          refine cw_region (id := 2) rfl ?_
          all_goals refine wAssign ?_
          all_goals refine wAssign ?_
          all_goals refine wAssign ?_
          all_goals refine ow_nil ?_)
      | (
          refine cw_region (id := 3) rfl ?_
          all_goals refine wMove ?_
          all_goals refine wMove ?_
          all_goals refine wCheck ?_
          all_goals refine wField ?_
          all_goals (refine ow_cons ?_; first | refine kStore ?_ | refine kStoreA ?_ | refine kStoreR ?_)
          all_goals refine ow_nil ?_)
      | (
          refine cw_region (id := 4) rfl ?_
          all_goals refine wMove ?_
          all_goals (refine ow_cons ?_; (refine st_callA (av := [_]) rfl (timer39 b s1 a cap ok1.smooth ok1.vary ok1.tries ok1.last (by omega) (fun q hq => by have := (ok1.each q hq).at_; omega)) ?_; rintro v L' ⟨rfl, rfl⟩))
          all_goals refine wMove ?_
          all_goals refine wExtract ?_
          all_goals refine wExtract ?_
          all_goals refine wExtract ?_
          all_goals refine wAssign ?_
          all_goals refine wAssign ?_
          all_goals refine wAssign ?_
          all_goals refine ow_nil ?_)
      | (
          refine cw_region (id := 5) rfl ?_
          all_goals refine wMove ?_
          all_goals refine wNot ?_
          all_goals refine wMove ?_
          all_goals (refine ow_cons ?_; first | refine gNo ?_ | refine gUn ?_ | (refine gYes ?_; refine kMove ?_) | (refine gTf ?_; refine kMove ?_) | refine gFf ?_ | (refine gSf (fun hc => ?_) (fun hc => ?_); rotate_left; (focus (refine kMove ?_)); rotate_right) | (refine gBf (fun hc => ?_) (fun hc => ?_); rotate_left; (focus (refine kMove ?_)); rotate_right))
          all_goals (refine ow_cons ?_; first | refine gNo ?_ | refine gUn ?_ | (refine gYes ?_; refine kMove ?_) | (refine gTf ?_; refine kMove ?_) | refine gFf ?_ | (refine gSf (fun hc => ?_) (fun hc => ?_); rotate_left; (focus (refine kMove ?_)); rotate_right) | (refine gBf (fun hc => ?_) (fun hc => ?_); rotate_left; (focus (refine kMove ?_)); rotate_right))
          all_goals (refine ow_cons ?_; first | refine gNo ?_ | refine gUn ?_ | (refine gYes ?_; refine kGtr ?_) | (refine gTf ?_; refine kGtr ?_) | refine gFf ?_ | (refine gSf (fun hc => ?_) (fun hc => ?_); rotate_left; (focus (refine kGtr ?_)); rotate_right) | (refine gBf (fun hc => ?_) (fun hc => ?_); rotate_left; (focus (refine kGtr ?_)); rotate_right))
          all_goals refine wPick ?_
          all_goals refine wAssign ?_
          all_goals refine ow_nil ?_)
      | (
          refine cw_region (id := 6) rfl ?_
          all_goals refine wAssign ?_
          all_goals refine wAssign ?_
          all_goals refine wAssign ?_
          all_goals refine ow_nil ?_)
      | (
          refine cw_region (id := 7) rfl ?_
          all_goals refine wMove ?_
          all_goals refine wAssign ?_
          all_goals refine ow_nil ?_)
      | (
          refine cw_region (id := 8) rfl ?_
          all_goals refine wMove ?_
          all_goals refine wMove ?_
          all_goals (refine ow_cons ?_; (refine st_callA (av := [_, _]) rfl (give38 b s1 a cap t ok1.smooth ok1.last (by omega) (by omega) (by omega) (by omega) ok1.fl (fun q hq => (ok1.each q hq).size)) ?_; rintro v L' ⟨a', cap', rfl, rfl⟩))
          all_goals refine wAssign ?_
          all_goals refine wAssign ?_
          all_goals refine wAssign ?_
          all_goals refine ow_nil ?_)
      | (
          refine cw_region (id := 9) rfl ?_
          all_goals refine wMove ?_
          all_goals refine wMove ?_
          all_goals refine wCheck ?_
          all_goals refine wField ?_
          all_goals refine wLoad ?_
          all_goals refine wAdd ?_
          all_goals refine wMin ?_
          all_goals refine wCheck ?_
          all_goals refine wField ?_
          all_goals (refine ow_cons ?_; first | refine kStore ?_ | refine kStoreA ?_ | refine kStoreR ?_)
          all_goals refine ow_nil ?_)
      | (
          refine cw_region (id := 10) rfl ?_
          all_goals refine wAssign ?_
          all_goals refine wAssign ?_
          all_goals refine wAssign ?_
          all_goals refine ow_nil ?_)
      | refine cw_seq ?_
      | refine tq_n ?_
      | (refine isCW ?_; first | refine cw_region rfl ?_ | refine cw_skip ?_ | refine cw_ret ?_ | refine cw_exit ?_ | refine cw_block ?_ | refine cTrue ?_ | refine cFalse ?_ | refine cT ?_ | refine cF ?_ | refine cS (fun hc => ?_) (fun hc => ?_) | refine cB (fun hc => ?_) (fun hc => ?_))
      | refine tq_ret ?_ | refine tq_exit ?_ | refine bq_n ?_ | refine bq_ret ?_ | refine bq_same ?_ | refine bq_ne rfl ?_
      | refine ow_cons ?_ | refine ow_nil ?_
      | (refine isOpK ?_; first
        | (refine isG ?_; first | refine opk_yes rfl rfl ?_ | refine opk_no rfl rfl ?_ | refine opk_no_undef rfl rfl ?_ | refine opk_g_t rfl rfl (by omega) ?_ | refine opk_g_f rfl rfl (by omega) ?_ | refine opk_g_s rfl rfl (fun hc => ?_) (fun hc => ?_) | refine opk_g_b rfl rfl (fun hc => ?_) (fun hc => ?_))
        | refine kRd ?_
        | refine kStore ?_
        | refine kStoreA ?_
        | refine kStoreR ?_
        | (refine kIdxR (fun g hg => ?_); subst hg)
        | (refine kIdxO (fun gb go hg => ?_); subst hg)
        | refine st_alloc (fun bN => ?_)
        | refine kBox (fun bN => ?_)
        | refine kBoxA (fun bN => ?_)
        | (refine st_buildSlice rfl rfl rfl rfl (fun bN => ?_))
        | (refine st_clearR rfl selA rfl (by omega) rfl rfl rfl ?_)
        | (refine st_clearR rfl selA (by omega) (by omega) rfl rfl rfl ?_)
        | (refine st_callA (av := [_]) rfl (timer39 b s1 a cap ok1.smooth ok1.vary ok1.tries ok1.last (by omega) (fun q hq => by have := (ok1.each q hq).at_; omega)) ?_; rintro v L' ⟨rfl, rfl⟩)
        | (refine st_callA (av := [_, _]) rfl (give38 b s1 a cap t ok1.smooth ok1.last (by omega) (by omega) (by omega) (by omega) ok1.fl (fun q hq => (ok1.each q hq).size)) ?_; rintro v L' ⟨a', cap', rfl, rfl⟩))
      | refine hw_cons ?_ | refine hw_nil ?_
      | (refine isOpS ?_; first
        | (refine os_isG ?_; first | refine os_yes rfl rfl ?_ | refine os_no rfl rfl ?_ | refine os_no_undef rfl rfl ?_ | refine os_g_t rfl rfl (by omega) ?_ | refine os_g_f rfl rfl (by omega) ?_ | refine os_g_s rfl rfl (fun hc => ?_) (fun hc => ?_) | refine os_g_b rfl rfl (fun hc => ?_) (fun hc => ?_))
        | refine sRd ?_))
    · rw [if_pos (.inl (by simpa using hc))] at hf
      rw [hf]
      exact retQ_ret (retV_tmps [4, 5, 6] rfl rfl) ⟨none, 0, rfl, rfl⟩ (fun _ _ h => pick3 (tr_addNil 3 (tInt .i64) h) selA selA selA)
    · rw [if_pos (.inr hc)] at hf
      rw [hf]
      exact retQ_ret (retV_tmps [4, 5, 6] rfl rfl) ⟨none, 0, rfl, rfl⟩ (fun _ _ h => pick3 (tr_addNil 3 (tInt .i64) h) selA selA selA)
    · rename_i h1 h2
      rw [if_neg (by rintro (h | h) <;> simp_all), if_pos hc] at hf
      rw [hf]
      exact retQ_ret (retV_tmps [4, 5, 6] rfl rfl) ⟨a', cap', by simp only [fireV, List.length_map]; rfl, rfl⟩ (fun _ _ h => h)
    · rename_i h1 h2
      rw [if_neg (by rintro (h | h) <;> simp_all), if_neg (by simp [hc])] at hf
      rw [hf]
      exact retQ_ret (retV_tmps [4, 5, 6] rfl rfl) ⟨none, 0, rfl, rfl⟩ (fun _ _ h => pick3 (tr_addNil 3 (tInt .i64) h) selA selA selA)
end Go.Proofs.Ytomaldjedncjoaa.E
