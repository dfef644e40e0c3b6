/-
The layer 'loss': its state in memory, and the contracts of its smallest functions.
Conditions: each is said with its statement.
-/
import Derived.Test.YtomaldjedncjoaaE13
import Derived.Test.YtomaldjedncjoaaInst
set_option linter.unusedVariables false
namespace Go.Proofs.Ytomaldjedncjoaa.E
open Go
set_option maxRecDepth 100000
set_option maxHeartbeats 4000000
structure Pk where
  number : Int
  size : Int
  at_ : Int
  asks : Bool
structure St where
  waits : List Pk
  top : Int
  best : Int
  smooth : Int
  vary : Int
  least : Int
  last : Int
  had : Bool
  window : Int
  mark : Int
  since : Int
  flight : Int
  tries : Int
  now : Int
def encPk (p : Pk) : List Value := [.int .i64 p.number, .int .i64 p.size, .int .i64 p.at_, .bool p.asks]
def tPk : Ty Pk := ⟨4, encPk, fun _ => rfl, fun x v h => by simp [encPk] at h; rcases h with h | h | h | h <;> subst h <;> rfl⟩
def encS (s : St) (a : Option Nat) (cap : Nat) : List Value := [.slice (oad a) s.waits.length cap, .int .i64 s.top, .int .i64 s.best, .int .i64 s.smooth, .int .i64 s.vary, .int .i64 s.least, .int .i64 s.last, .bool s.had, .int .i64 s.window, .int .i64 s.mark, .int .i64 s.since, .int .i64 s.flight, .int .i64 s.tries, .int .i64 s.now]
def stR (b : Nat) (s : St) (a : Option Nat) (cap : Nat) : Heap := [blk b 63 (encS s a cap), row a 66 cap tPk s.waits]
def ptr (b : Nat) : Value := .pointer (some ⟨b, 0, none⟩)
def i6 (n : Int) : Value := .int .i64 n
theorem dec_t {p : Prop} [Decidable p] (h : p) : Value.bool true = .bool (decide p) := by rw [decide_eq_true h]
theorem dec_f {p : Prop} [Decidable p] (h : ¬ p) : Value.bool false = .bool (decide p) := by rw [decide_eq_false h]
theorem dec_i {p q : Prop} [Decidable p] [Decidable q] (h : p ↔ q) : Value.bool (decide p) = .bool (decide q) := by rw [decide_eq_decide.2 h]

theorem time_spec (b : Nat) (s : St) (a : Option Nat) (cap : Nat) (t : Int) : Spec Go.Proofs.Try.prog 27 #[.pointer (some ⟨b, 0, none⟩), .int .i64 t] [blk b 63 (encS s a cap)]
    (fun v L => v = .bool (decide (s.now ≤ t ∧ t ≤ 1099511627776)) ∧ L = [blk b 63 (encS s a cap)]) := by
  refine spec_of (args := [.pointer (some ⟨b, 0, none⟩), .int .i64 t]) Go.Proofs.Try.func27 rfl rfl fun w0 hw0 => ?_
  repeat' (first
    | (
        refine cw_region (id := 0) rfl ?_
        all_goals refine wAssign ?_
        all_goals refine ow_nil ?_)
    | (
        refine cw_region (id := 1) rfl ?_
        all_goals refine wMove ?_
        all_goals refine wNeq ?_
        all_goals refine wMove ?_
        all_goals (refine ow_cons ?_; first | refine gNo ?_ | refine gUn ?_ | (refine gYes ?_; refine kMove ?_) | (refine gTt ?_; refine kMove ?_) | refine gFt ?_ | (refine gSt (fun hc => ?_) (fun hc => ?_); (focus (refine kMove ?_))) | (refine gBt (fun hc => ?_) (fun hc => ?_); (focus (refine kMove ?_))))
        all_goals (refine ow_cons ?_; first | refine gNo ?_ | refine gUn ?_ | (refine gYes ?_; refine kMove ?_) | (refine gTt ?_; refine kMove ?_) | refine gFt ?_ | (refine gSt (fun hc => ?_) (fun hc => ?_); (focus (refine kMove ?_))) | (refine gBt (fun hc => ?_) (fun hc => ?_); (focus (refine kMove ?_))))
        all_goals (refine ow_cons ?_; first | refine gNo ?_ | refine gUn ?_ | (refine gYes ?_; refine kCheck ?_) | (refine gTt ?_; refine kCheck ?_) | refine gFt ?_ | (refine gSt (fun hc => ?_) (fun hc => ?_); (focus (refine kCheck ?_))) | (refine gBt (fun hc => ?_) (fun hc => ?_); (focus (refine kCheck ?_))))
        all_goals (refine ow_cons ?_; first | refine gNo ?_ | refine gUn ?_ | (refine gYes ?_; refine kField ?_) | (refine gTt ?_; refine kField ?_) | refine gFt ?_ | (refine gSt (fun hc => ?_) (fun hc => ?_); (focus (refine kField ?_))) | (refine gBt (fun hc => ?_) (fun hc => ?_); (focus (refine kField ?_))))
        all_goals (refine ow_cons ?_; first | refine gNo ?_ | refine gUn ?_ | (refine gYes ?_; refine kLoad ?_) | (refine gTt ?_; refine kLoad ?_) | refine gFt ?_ | (refine gSt (fun hc => ?_) (fun hc => ?_); (focus (refine kLoad ?_))) | (refine gBt (fun hc => ?_) (fun hc => ?_); (focus (refine kLoad ?_))))
        all_goals (refine ow_cons ?_; first | refine gNo ?_ | refine gUn ?_ | (refine gYes ?_; refine kGeq ?_) | (refine gTt ?_; refine kGeq ?_) | refine gFt ?_ | (refine gSt (fun hc => ?_) (fun hc => ?_); (focus (refine kGeq ?_))) | (refine gBt (fun hc => ?_) (fun hc => ?_); (focus (refine kGeq ?_))))
        all_goals refine wPick ?_
        all_goals refine wMove ?_
        all_goals (refine ow_cons ?_; first | refine gNo ?_ | refine gUn ?_ | (refine gYes ?_; refine kMove ?_) | (refine gTt ?_; refine kMove ?_) | refine gFt ?_ | (refine gSt (fun hc => ?_) (fun hc => ?_); (focus (refine kMove ?_))) | (refine gBt (fun hc => ?_) (fun hc => ?_); (focus (refine kMove ?_))))
        all_goals (refine ow_cons ?_; first | refine gNo ?_ | refine gUn ?_ | (refine gYes ?_; refine kLeq ?_) | (refine gTt ?_; refine kLeq ?_) | refine gFt ?_ | (refine gSt (fun hc => ?_) (fun hc => ?_); (focus (refine kLeq ?_))) | (refine gBt (fun hc => ?_) (fun hc => ?_); (focus (refine kLeq ?_))))
        all_goals refine wPick ?_
        all_goals refine wAssign ?_
        all_goals refine ow_nil ?_)
    | refine cw_seq ?_
    | refine tq_n ?_
    | refine cw_skip ?_ | refine cw_ret ?_ | refine cw_exit ?_ | refine cw_block ?_ | refine cTrue ?_ | refine cFalse ?_ | refine cT ?_ | refine cF ?_ | refine cS (fun hc => ?_) (fun hc => ?_) | refine cB (fun hc => ?_) (fun hc => ?_)
    | refine tq_ret ?_ | refine tq_exit ?_ | refine bq_n ?_ | refine bq_ret ?_ | refine bq_same ?_ | refine bq_ne rfl ?_)
  · exact retQ_ret (retV_tmps [4] rfl rfl) ⟨dec_i (by omega), rfl⟩ (fun _ _ h => h)
  · exact retQ_ret (retV_tmps [4] rfl rfl) ⟨dec_f (by omega), rfl⟩ (fun _ _ h => h)

def St.sent (s : St) (number size : Int) (asks : Bool) (t : Int) : St := { s with now := t, top := number, waits := s.waits ++ [⟨number, size, t, asks⟩], flight := if asks then s.flight + size else s.flight }
def sentBad (s : St) (number size t : Int) : Prop := ¬ (s.now ≤ t ∧ t ≤ 1099511627776) ∨ number ≤ s.top ∨ 1099511627776 < number ∨ size < 1 ∨ 65535 < size
theorem sent_spec (b : Nat) (s : St) (a : Option Nat) (cap : Nat) (number size : Int) (asks : Bool) (t : Int) (hl : (s.waits.length + 1) * 32 ≤ 140737488355328) (hf : 0 ≤ s.flight ∧ s.flight ≤ 4611686018427387904) :
    Spec Go.Proofs.Try.prog 10 #[ptr b, i6 number, i6 size, .bool asks, i6 t] (stR b s a cap)
    (fun v L => (sentBad s number size t ∧ v = i6 1 ∧ L = stR b s a cap) ∨ (¬ sentBad s number size t ∧ v = i6 0 ∧ ∃ a' cap', L = stR b (s.sent number size asks t) a' cap')) := by
  refine spec_of (args := [ptr b, i6 number, i6 size, .bool asks, i6 t]) Go.Proofs.Try.func10 rfl rfl fun w0 hw0 => ?_
  unfold stR
  repeat' (first
    | (
        refine cw_region (id := 0) rfl ?_
        all_goals refine wAssign ?_
        all_goals refine ow_nil ?_)
    | (
        refine cw_region (id := 1) rfl ?_
        all_goals refine wMove ?_
        all_goals refine wMove ?_
        all_goals (refine ow_cons ?_; (refine st_call rfl (time_spec b s a cap t) (.cons (.head _ _) (.nil _)) ?_; rintro v L' ⟨rfl, rfl⟩))
        all_goals refine wNot ?_
        all_goals refine wMove ?_
        all_goals (refine ow_cons ?_; first | refine gNo ?_ | refine gUn ?_ | (refine gYes ?_; refine kMove ?_) | (refine gTf ?_; refine kMove ?_) | refine gFf ?_ | (refine gSf (fun hc => ?_) (fun hc => ?_); rotate_left; (focus (refine kMove ?_)); rotate_right) | (refine gBf (fun hc => ?_) (fun hc => ?_); rotate_left; (focus (refine kMove ?_)); rotate_right))
        all_goals (refine ow_cons ?_; first | refine gNo ?_ | refine gUn ?_ | (refine gYes ?_; refine kMove ?_) | (refine gTf ?_; refine kMove ?_) | refine gFf ?_ | (refine gSf (fun hc => ?_) (fun hc => ?_); rotate_left; (focus (refine kMove ?_)); rotate_right) | (refine gBf (fun hc => ?_) (fun hc => ?_); rotate_left; (focus (refine kMove ?_)); rotate_right))
        all_goals (refine ow_cons ?_; first | refine gNo ?_ | refine gUn ?_ | (refine gYes ?_; refine kCheck ?_) | (refine gTf ?_; refine kCheck ?_) | refine gFf ?_ | (refine gSf (fun hc => ?_) (fun hc => ?_); rotate_left; (focus (refine kCheck ?_)); rotate_right) | (refine gBf (fun hc => ?_) (fun hc => ?_); rotate_left; (focus (refine kCheck ?_)); rotate_right))
        all_goals (refine ow_cons ?_; first | refine gNo ?_ | refine gUn ?_ | (refine gYes ?_; refine kField ?_) | (refine gTf ?_; refine kField ?_) | refine gFf ?_ | (refine gSf (fun hc => ?_) (fun hc => ?_); rotate_left; (focus (refine kField ?_)); rotate_right) | (refine gBf (fun hc => ?_) (fun hc => ?_); rotate_left; (focus (refine kField ?_)); rotate_right))
        all_goals (refine ow_cons ?_; first | refine gNo ?_ | refine gUn ?_ | (refine gYes ?_; refine kLoad ?_) | (refine gTf ?_; refine kLoad ?_) | refine gFf ?_ | (refine gSf (fun hc => ?_) (fun hc => ?_); rotate_left; (focus (refine kLoad ?_)); rotate_right) | (refine gBf (fun hc => ?_) (fun hc => ?_); rotate_left; (focus (refine kLoad ?_)); rotate_right))
        all_goals (refine ow_cons ?_; first | refine gNo ?_ | refine gUn ?_ | (refine gYes ?_; refine kLeq ?_) | (refine gTf ?_; refine kLeq ?_) | refine gFf ?_ | (refine gSf (fun hc => ?_) (fun hc => ?_); rotate_left; (focus (refine kLeq ?_)); rotate_right) | (refine gBf (fun hc => ?_) (fun hc => ?_); rotate_left; (focus (refine kLeq ?_)); rotate_right))
        all_goals refine wPick ?_
        all_goals refine wMove ?_
        all_goals (refine ow_cons ?_; first | refine gNo ?_ | refine gUn ?_ | (refine gYes ?_; refine kMove ?_) | (refine gTf ?_; refine kMove ?_) | refine gFf ?_ | (refine gSf (fun hc => ?_) (fun hc => ?_); rotate_left; (focus (refine kMove ?_)); rotate_right) | (refine gBf (fun hc => ?_) (fun hc => ?_); rotate_left; (focus (refine kMove ?_)); rotate_right))
        all_goals (refine ow_cons ?_; first | refine gNo ?_ | refine gUn ?_ | (refine gYes ?_; refine kGtr ?_) | (refine gTf ?_; refine kGtr ?_) | refine gFf ?_ | (refine gSf (fun hc => ?_) (fun hc => ?_); rotate_left; (focus (refine kGtr ?_)); rotate_right) | (refine gBf (fun hc => ?_) (fun hc => ?_); rotate_left; (focus (refine kGtr ?_)); rotate_right))
        all_goals refine wPick ?_
        all_goals refine wMove ?_
        all_goals (refine ow_cons ?_; first | refine gNo ?_ | refine gUn ?_ | (refine gYes ?_; refine kMove ?_) | (refine gTf ?_; refine kMove ?_) | refine gFf ?_ | (refine gSf (fun hc => ?_) (fun hc => ?_); rotate_left; (focus (refine kMove ?_)); rotate_right) | (refine gBf (fun hc => ?_) (fun hc => ?_); rotate_left; (focus (refine kMove ?_)); rotate_right))
        all_goals (refine ow_cons ?_; first | refine gNo ?_ | refine gUn ?_ | (refine gYes ?_; refine kLss ?_) | (refine gTf ?_; refine kLss ?_) | refine gFf ?_ | (refine gSf (fun hc => ?_) (fun hc => ?_); rotate_left; (focus (refine kLss ?_)); rotate_right) | (refine gBf (fun hc => ?_) (fun hc => ?_); rotate_left; (focus (refine kLss ?_)); rotate_right))
        all_goals refine wPick ?_
        all_goals refine wMove ?_
        all_goals (refine ow_cons ?_; first | refine gNo ?_ | refine gUn ?_ | (refine gYes ?_; refine kMove ?_) | (refine gTf ?_; refine kMove ?_) | refine gFf ?_ | (refine gSf (fun hc => ?_) (fun hc => ?_); rotate_left; (focus (refine kMove ?_)); rotate_right) | (refine gBf (fun hc => ?_) (fun hc => ?_); rotate_left; (focus (refine kMove ?_)); rotate_right))
        all_goals (refine ow_cons ?_; first | refine gNo ?_ | refine gUn ?_ | (refine gYes ?_; refine kGtr ?_) | (refine gTf ?_; refine kGtr ?_) | refine gFf ?_ | (refine gSf (fun hc => ?_) (fun hc => ?_); rotate_left; (focus (refine kGtr ?_)); rotate_right) | (refine gBf (fun hc => ?_) (fun hc => ?_); rotate_left; (focus (refine kGtr ?_)); rotate_right))
        all_goals refine wPick ?_
        all_goals refine ow_nil ?_)
    | (
        refine cw_region (id := 2) rfl ?_
        all_goals refine wAssign ?_
        all_goals refine ow_nil ?_)
    | (
        refine cw_region (id := 3) rfl ?_
        all_goals refine wMove ?_
        all_goals refine wMove ?_
        all_goals refine wMove ?_
        all_goals refine wMove ?_
        all_goals refine wCheck ?_
        all_goals refine wField ?_
        all_goals (refine ow_cons ?_; first | refine kStore ?_ | refine kStoreA ?_ | refine kStoreR ?_)
        all_goals refine wCheck ?_
        all_goals refine wField ?_
        all_goals (refine ow_cons ?_; first | refine kStore ?_ | refine kStoreA ?_ | refine kStoreR ?_)
        all_goals refine ow_nil ?_)
    | (
        refine cw_region (id := 4) rfl ?_
        all_goals refine wMove ?_
        all_goals refine wMove ?_
        all_goals refine wCheck ?_
        all_goals refine wField ?_
        all_goals refine wLoad ?_
        all_goals refine wMove ?_
        all_goals refine wMove ?_
        all_goals refine wMove ?_
        all_goals refine wMove ?_
        all_goals (refine ow_cons ?_; refine st_rd (rd_build (vs := [.int _ _, .int _ _, .int _ _, .bool _]) rfl) ?_)
        all_goals (refine ow_cons ?_; refine st_buildSlice (vs := [.int _ _, .int _ _, .int _ _, .bool _]) rfl rfl rfl rfl (fun bN => ?_))
        all_goals (refine ow_cons ?_; (refine st_append1 (τ := tPk) ⟨number, size, t, asks⟩ rfl rfl selA selA rfl rfl rfl (by omega) (fun a' cap' => ?_)))
        all_goals refine wCheck ?_
        all_goals refine wField ?_
        all_goals (refine ow_cons ?_; first | refine kStore ?_ | refine kStoreA ?_ | refine kStoreR ?_)
        all_goals refine ow_nil ?_)
    | (
        refine cw_region (id := 5) rfl ?_
        all_goals refine wMove ?_
        all_goals refine ow_nil ?_)
    | (
        refine cw_region (id := 6) rfl ?_
        all_goals refine wMove ?_
        all_goals refine wCheck ?_
        all_goals refine wField ?_
        all_goals refine wLoad ?_
        all_goals refine wMove ?_
        all_goals refine wAdd ?_
        all_goals refine wCheck ?_
        all_goals refine wField ?_
        all_goals (refine ow_cons ?_; first | refine kStore ?_ | refine kStoreA ?_ | refine kStoreR ?_)
        all_goals refine ow_nil ?_)
    | (
        refine cw_region (id := 7) rfl ?_
        all_goals refine wAssign ?_
        all_goals refine ow_nil ?_)
    | refine cw_seq ?_
    | refine tq_n ?_
    | refine cw_skip ?_ | refine cw_ret ?_ | refine cw_exit ?_ | refine cw_block ?_ | refine cTrue ?_ | refine cFalse ?_ | refine cT ?_ | refine cF ?_ | refine cS (fun hc => ?_) (fun hc => ?_) | refine cB (fun hc => ?_) (fun hc => ?_)
    | refine tq_ret ?_ | refine tq_exit ?_ | refine bq_n ?_ | refine bq_ret ?_ | refine bq_same ?_ | refine bq_ne rfl ?_)
  · exact retQ_ret (retV_tmps [10] rfl rfl) (.inl ⟨.inl hc, rfl, rfl⟩) (fun _ _ h => h)
  · exact retQ_ret (retV_tmps [10] rfl rfl) (.inl ⟨.inr (.inl hc), rfl, rfl⟩) (fun _ _ h => h)
  · exact retQ_ret (retV_tmps [10] rfl rfl) (.inl ⟨.inr (.inr (.inl hc)), rfl, rfl⟩) (fun _ _ h => h)
  · exact retQ_ret (retV_tmps [10] rfl rfl) (.inl ⟨.inr (.inr (.inr (.inl hc))), rfl, rfl⟩) (fun _ _ h => h)
  · exact retQ_ret (retV_tmps [10] rfl rfl) (.inl ⟨.inr (.inr (.inr (.inr hc))), rfl, rfl⟩) (fun _ _ h => h)
  · subst hc
    exact retQ_ret (retV_tmps [10] rfl rfl) (.inr ⟨by unfold sentBad; omega, rfl, _, _, rfl⟩) (fun _ _ h => pick2 h selA selA)
  · subst hc
    exact retQ_ret (retV_tmps [10] rfl rfl) (.inr ⟨by unfold sentBad; omega, rfl, _, _, rfl⟩) (fun _ _ h => pick2 h selA selA)

def newS : St := ⟨[], -1, -1, 100, 50, 0, 0, false, 12000, 1099511627776, -1, 0, 0, 0⟩
theorem new_spec : Spec Go.Proofs.Try.prog 9 #[] [] (fun v L => ∃ b, v = ptr b ∧ L = stR b newS none 0) := by
  refine spec_of (args := []) Go.Proofs.Try.func9 rfl rfl fun w0 hw0 => ?_
  repeat' (first
    | (
        refine cw_region (id := 0) rfl ?_
        all_goals refine wAssign ?_
        all_goals refine ow_nil ?_)
    | (
        refine cw_region (id := 1) rfl ?_
        all_goals (refine ow_cons ?_; refine st_rd (rd_build (vs := [.slice _ _ _, .int _ _, .int _ _, .int _ _, .int _ _, .int _ _, .int _ _, .bool _, .int _ _, .int _ _, .int _ _, .int _ _, .int _ _, .int _ _]) rfl) ?_)
        all_goals (refine ow_cons ?_; first | refine kBox (fun bN => ?_) | refine kBoxA (fun bN => ?_))
        all_goals refine wAssign ?_
        all_goals refine ow_nil ?_)
    | refine cw_seq ?_
    | refine tq_n ?_
    | refine cw_skip ?_ | refine cw_ret ?_ | refine cw_exit ?_ | refine cw_block ?_ | refine cTrue ?_ | refine cFalse ?_ | refine cT ?_ | refine cF ?_ | refine cS (fun hc => ?_) (fun hc => ?_) | refine cB (fun hc => ?_) (fun hc => ?_)
    | refine tq_ret ?_ | refine tq_exit ?_ | refine bq_n ?_ | refine bq_ret ?_ | refine bq_same ?_ | refine bq_ne rfl ?_)
  exact retQ_ret (retV_tmps [0] rfl rfl) ⟨bN, rfl, rfl⟩ (fun _ _ h => pick2 (tr_addNil 66 tPk h) sel1 sel0)

theorem trip_spec (b : Nat) (s : St) (a : Option Nat) (cap : Nat) : Spec Go.Proofs.Try.prog 12 #[ptr b] [blk b 63 (encS s a cap)] (fun v L => v = .tuple #[i6 s.smooth, i6 s.vary] ∧ L = [blk b 63 (encS s a cap)]) := by
  refine spec_of (args := [ptr b]) Go.Proofs.Try.func12 rfl rfl fun w0 hw0 => ?_
  repeat' (first
    | (
        refine cw_region (id := 0) rfl ?_
        all_goals refine wAssign ?_
        all_goals refine wAssign ?_
        all_goals refine ow_nil ?_)
    | (
        refine cw_region (id := 1) rfl ?_
        all_goals refine wMove ?_
        all_goals refine wEql ?_
        all_goals refine ow_nil ?_)
    | (
        refine cw_region (id := 2) rfl ?_
        all_goals refine wAssign ?_
        all_goals refine wAssign ?_
        all_goals refine ow_nil ?_)
    | (
        refine cw_draw (id := 3) 10 (by kernel_rfl) (by kernel_rfl) rfl ?_
        all_goals refine hMove ?_
        all_goals refine hCheck ?_
        all_goals refine hField ?_
        all_goals refine hLoad ?_
        all_goals refine hMove ?_
        all_goals refine hCheck ?_
        all_goals refine hField ?_
        all_goals refine hLoad ?_
        all_goals refine hAssign ?_
        all_goals refine hAssign ?_
        all_goals refine hw_nil ?_
        all_goals refine ow_nil ?_)
    | refine cw_seq ?_
    | refine tq_n ?_
    | refine cw_skip ?_ | refine cw_ret ?_ | refine cw_exit ?_ | refine cw_block ?_ | refine cTrue ?_ | refine cFalse ?_ | refine cT ?_ | refine cF ?_ | refine cS (fun hc => ?_) (fun hc => ?_) | refine cB (fun hc => ?_) (fun hc => ?_)
    | refine tq_ret ?_ | refine tq_exit ?_ | refine bq_n ?_ | refine bq_ret ?_ | refine bq_same ?_ | refine bq_ne rfl ?_)
  exact retQ_ret (retV_tmps [2, 3] rfl rfl) ⟨rfl, rfl⟩ (fun _ _ h => h)
theorem flight_spec (b : Nat) (s : St) (a : Option Nat) (cap : Nat) : Spec Go.Proofs.Try.prog 14 #[ptr b] [blk b 63 (encS s a cap)] (fun v L => v = i6 s.flight ∧ L = [blk b 63 (encS s a cap)]) := by
  refine spec_of (args := [ptr b]) Go.Proofs.Try.func14 rfl rfl fun w0 hw0 => ?_
  repeat' (first
    | (
        refine cw_region (id := 0) rfl ?_
        all_goals refine wAssign ?_
        all_goals refine ow_nil ?_)
    | (
        refine cw_region (id := 1) rfl ?_
        all_goals refine wMove ?_
        all_goals refine wEql ?_
        all_goals refine ow_nil ?_)
    | (
        refine cw_region (id := 2) rfl ?_
        all_goals refine wAssign ?_
        all_goals refine ow_nil ?_)
    | (
        refine cw_region (id := 3) rfl ?_
        all_goals refine wMove ?_
        all_goals refine wCheck ?_
        all_goals refine wField ?_
        all_goals refine wLoad ?_
        all_goals refine wAssign ?_
        all_goals refine ow_nil ?_)
    | refine cw_seq ?_
    | refine tq_n ?_
    | refine cw_skip ?_ | refine cw_ret ?_ | refine cw_exit ?_ | refine cw_block ?_ | refine cTrue ?_ | refine cFalse ?_ | refine cT ?_ | refine cF ?_ | refine cS (fun hc => ?_) (fun hc => ?_) | refine cB (fun hc => ?_) (fun hc => ?_)
    | refine tq_ret ?_ | refine tq_exit ?_ | refine bq_n ?_ | refine bq_ret ?_ | refine bq_same ?_ | refine bq_ne rfl ?_)
  exact retQ_ret (retV_tmps [2] rfl rfl) ⟨rfl, rfl⟩ (fun _ _ h => h)
theorem window_spec (b : Nat) (s : St) (a : Option Nat) (cap : Nat) : Spec Go.Proofs.Try.prog 15 #[ptr b] [blk b 63 (encS s a cap)] (fun v L => v = i6 s.window ∧ L = [blk b 63 (encS s a cap)]) := by
  refine spec_of (args := [ptr b]) Go.Proofs.Try.func15 rfl rfl fun w0 hw0 => ?_
  repeat' (first
    | (
        refine cw_region (id := 0) rfl ?_
        all_goals refine wAssign ?_
        all_goals refine ow_nil ?_)
    | (
        refine cw_region (id := 1) rfl ?_
        all_goals refine wMove ?_
        all_goals refine wEql ?_
        all_goals refine ow_nil ?_)
    | (
        refine cw_region (id := 2) rfl ?_
        all_goals refine wAssign ?_
        all_goals refine ow_nil ?_)
    | (
        refine cw_region (id := 3) rfl ?_
        all_goals refine wMove ?_
        all_goals refine wCheck ?_
        all_goals refine wField ?_
        all_goals refine wLoad ?_
        all_goals refine wAssign ?_
        all_goals refine ow_nil ?_)
    | refine cw_seq ?_
    | refine tq_n ?_
    | refine cw_skip ?_ | refine cw_ret ?_ | refine cw_exit ?_ | refine cw_block ?_ | refine cTrue ?_ | refine cFalse ?_ | refine cT ?_ | refine cF ?_ | refine cS (fun hc => ?_) (fun hc => ?_) | refine cB (fun hc => ?_) (fun hc => ?_)
    | refine tq_ret ?_ | refine tq_exit ?_ | refine bq_n ?_ | refine bq_ret ?_ | refine bq_same ?_ | refine bq_ne rfl ?_)
  exact retQ_ret (retV_tmps [2] rfl rfl) ⟨rfl, rfl⟩ (fun _ _ h => h)
theorem room_spec (b : Nat) (s : St) (a : Option Nat) (cap : Nat) (h0 : 0 ≤ s.window ∧ s.window ≤ 4611686018427387904) (h1 : 0 ≤ s.flight ∧ s.flight ≤ 4611686018427387904) :
    Spec Go.Proofs.Try.prog 18 #[ptr b] [blk b 63 (encS s a cap)] (fun v L => v = i6 (max (s.window - s.flight) 0) ∧ L = [blk b 63 (encS s a cap)]) := by
  refine spec_of (args := [ptr b]) Go.Proofs.Try.func18 rfl rfl fun w0 hw0 => ?_
  repeat' (first
    | (
        refine cw_region (id := 0) rfl ?_
        all_goals refine wAssign ?_
        all_goals refine ow_nil ?_)
    | (
        refine cw_region (id := 1) rfl ?_
        all_goals refine wMove ?_
        all_goals refine wEql ?_
        all_goals refine ow_nil ?_)
    | (
        refine cw_region (id := 2) rfl ?_
        all_goals refine wAssign ?_
        all_goals refine ow_nil ?_)
    | (
        refine cw_draw (id := 3) 11 (by kernel_rfl) (by kernel_rfl) rfl ?_
        all_goals refine hMove ?_
        all_goals refine hCheck ?_
        all_goals refine hField ?_
        all_goals refine hLoad ?_
        all_goals refine hMove ?_
        all_goals refine hCheck ?_
        all_goals refine hField ?_
        all_goals refine hLoad ?_
        all_goals refine hSub ?_
        all_goals refine hMax ?_
        all_goals refine hAssign ?_
        all_goals refine hw_nil ?_
        all_goals refine ow_nil ?_)
    | refine cw_seq ?_
    | refine tq_n ?_
    | refine cw_skip ?_ | refine cw_ret ?_ | refine cw_exit ?_ | refine cw_block ?_ | refine cTrue ?_ | refine cFalse ?_ | refine cT ?_ | refine cF ?_ | refine cS (fun hc => ?_) (fun hc => ?_) | refine cB (fun hc => ?_) (fun hc => ?_)
    | refine tq_ret ?_ | refine tq_exit ?_ | refine bq_n ?_ | refine bq_ret ?_ | refine bq_same ?_ | refine bq_ne rfl ?_)
  exact retQ_ret (retV_tmps [2] rfl rfl) ⟨rfl, rfl⟩ (fun _ _ h => h)
def St.wait (s : St) : Int := max (9 * max s.smooth s.last / 8) 1
theorem wait_spec (b : Nat) (s : St) (a : Option Nat) (cap : Nat) (h0 : 0 ≤ s.smooth ∧ s.smooth ≤ 1099511627776) (h1 : 0 ≤ s.last ∧ s.last ≤ 1099511627776) :
    Spec Go.Proofs.Try.prog 50 #[ptr b] [blk b 63 (encS s a cap)] (fun v L => v = i6 s.wait ∧ L = [blk b 63 (encS s a cap)]) := by
  refine spec_of (args := [ptr b]) Go.Proofs.Try.func50 rfl rfl fun w0 hw0 => ?_
  repeat' (first
    | (
        refine cw_region (id := 0) rfl ?_
        all_goals refine wAssign ?_
        all_goals refine ow_nil ?_)
    | (
        refine cw_draw (id := 1) 13 (by kernel_rfl) (by kernel_rfl) rfl ?_
        all_goals refine hMove ?_
        all_goals refine hCheck ?_
        all_goals refine hField ?_
        all_goals refine hLoad ?_
        all_goals refine hMove ?_
        all_goals refine hCheck ?_
        all_goals refine hField ?_
        all_goals refine hLoad ?_
        all_goals refine hMax ?_
        all_goals refine hMul ?_
        all_goals refine hQuo ?_
        all_goals refine hMax ?_
        all_goals refine hAssign ?_
        all_goals refine hw_nil ?_
        all_goals refine ow_nil ?_)
    | refine cw_seq ?_
    | refine tq_n ?_
    | refine cw_skip ?_ | refine cw_ret ?_ | refine cw_exit ?_ | refine cw_block ?_ | refine cTrue ?_ | refine cFalse ?_ | refine cT ?_ | refine cF ?_ | refine cS (fun hc => ?_) (fun hc => ?_) | refine cB (fun hc => ?_) (fun hc => ?_)
    | refine tq_ret ?_ | refine tq_exit ?_ | refine bq_n ?_ | refine bq_ret ?_ | refine bq_same ?_ | refine bq_ne rfl ?_)
  exact retQ_ret (retV_tmps [2] rfl rfl) ⟨rfl, rfl⟩ (fun _ _ h => h)
def St.sample (s : St) (trip delay : Int) : St :=
  if s.had then
    let adj := if min s.least trip + delay ≤ trip then trip - delay else trip
    { s with last := trip, least := min s.least trip, vary := (3 * s.vary + max (s.smooth - adj) (adj - s.smooth)) / 4, smooth := (7 * s.smooth + adj) / 8 }
  else { s with last := trip, had := true, least := trip, smooth := trip, vary := trip / 2 }
theorem sample_spec (b : Nat) (s : St) (a : Option Nat) (cap : Nat) (trip delay : Int) (h0 : 0 ≤ s.smooth ∧ s.smooth ≤ 1099511627776) (h1 : 0 ≤ s.vary ∧ s.vary ≤ 1099511627776) (h2 : 0 ≤ s.least ∧ s.least ≤ 1099511627776)
    (h3 : 0 ≤ trip ∧ trip ≤ 1099511627776) (h4 : 0 ≤ delay ∧ delay ≤ 1099511627776) :
    Spec Go.Proofs.Try.prog 35 #[ptr b, i6 trip, i6 delay] [blk b 63 (encS s a cap)] (fun v L => L = [blk b 63 (encS (s.sample trip delay) a cap)]) := by
  refine spec_of (args := [ptr b, i6 trip, i6 delay]) Go.Proofs.Try.func35 rfl rfl fun w0 hw0 => ?_
  repeat' (first
    | (
        refine cw_region (id := 0) rfl ?_
        all_goals refine wMove ?_
        all_goals refine wMove ?_
        all_goals refine wCheck ?_
        all_goals refine wField ?_
        all_goals (refine ow_cons ?_; first | refine kStore ?_ | refine kStoreA ?_ | refine kStoreR ?_)
        all_goals refine ow_nil ?_)
    | (
        refine cw_region (id := 1) rfl ?_
        all_goals refine wMove ?_
        all_goals refine wCheck ?_
        all_goals refine wField ?_
        all_goals refine wLoad ?_
        all_goals refine wNot ?_
        all_goals refine ow_nil ?_)
    | (
        refine cw_region (id := 2) rfl ?_
        all_goals refine wMove ?_
        all_goals refine wMove ?_
        all_goals refine wMove ?_
        all_goals refine wMove ?_
        all_goals refine wMove ?_
        all_goals refine wMove ?_
        all_goals refine wMove ?_
        all_goals refine wQuo ?_
        all_goals refine wCheck ?_
        all_goals refine wField ?_
        all_goals (refine ow_cons ?_; first | refine kStore ?_ | refine kStoreA ?_ | refine kStoreR ?_)
        all_goals refine wCheck ?_
        all_goals refine wField ?_
        all_goals (refine ow_cons ?_; first | refine kStore ?_ | refine kStoreA ?_ | refine kStoreR ?_)
        all_goals refine wCheck ?_
        all_goals refine wField ?_
        all_goals (refine ow_cons ?_; first | refine kStore ?_ | refine kStoreA ?_ | refine kStoreR ?_)
        all_goals refine wCheck ?_
        all_goals refine wField ?_
        all_goals (refine ow_cons ?_; first | refine kStore ?_ | refine kStoreA ?_ | refine kStoreR ?_)
        all_goals refine ow_nil ?_)
    | (
        refine cw_region (id := 3) rfl ?_
        all_goals refine wMove ?_
        all_goals refine wMove ?_
        all_goals refine wCheck ?_
        all_goals refine wField ?_
        all_goals refine wLoad ?_
        all_goals refine wMove ?_
        all_goals refine wMin ?_
        all_goals refine wCheck ?_
        all_goals refine wField ?_
        all_goals (refine ow_cons ?_; first | refine kStore ?_ | refine kStoreA ?_ | refine kStoreR ?_)
        all_goals refine ow_nil ?_)
    | (
        refine cw_region (id := 4) rfl ?_
        all_goals refine wMove ?_
        all_goals refine wMove ?_
        all_goals refine wCheck ?_
        all_goals refine wField ?_
        all_goals refine wLoad ?_
        all_goals refine wMove ?_
        all_goals refine wAdd ?_
        all_goals refine wGeq ?_
        all_goals refine ow_nil ?_)
    | (
        refine cw_region (id := 5) rfl ?_
        all_goals refine wMove ?_
        all_goals refine wMove ?_
        all_goals refine wSub ?_
        all_goals refine wAssign ?_
        all_goals refine ow_nil ?_)
    | (
        refine cw_draw (id := 6) 23 (by kernel_rfl) (by kernel_rfl) rfl ?_
        all_goals refine hMove ?_
        all_goals refine hMove ?_
        all_goals refine hCheck ?_
        all_goals refine hField ?_
        all_goals refine hLoad ?_
        all_goals refine hMul ?_
        all_goals refine hMove ?_
        all_goals refine hCheck ?_
        all_goals refine hField ?_
        all_goals refine hLoad ?_
        all_goals refine hMove ?_
        all_goals refine hSub ?_
        all_goals refine hMove ?_
        all_goals refine hMove ?_
        all_goals refine hCheck ?_
        all_goals refine hField ?_
        all_goals refine hLoad ?_
        all_goals refine hSub ?_
        all_goals refine hMax ?_
        all_goals refine hAdd ?_
        all_goals refine hQuo ?_
        all_goals refine hCheck ?_
        all_goals refine hField ?_
        all_goals refine hw_nil ?_
        all_goals (refine ow_cons ?_; first | refine kStore ?_ | refine kStoreA ?_ | refine kStoreR ?_)
        all_goals refine ow_nil ?_)
    | (
        refine cw_region (id := 7) rfl ?_
        all_goals refine wMove ?_
        all_goals refine wMove ?_
        all_goals refine wCheck ?_
        all_goals refine wField ?_
        all_goals refine wLoad ?_
        all_goals refine wMul ?_
        all_goals refine wMove ?_
        all_goals refine wAdd ?_
        all_goals refine wQuo ?_
        all_goals refine wCheck ?_
        all_goals refine wField ?_
        all_goals (refine ow_cons ?_; first | refine kStore ?_ | refine kStoreA ?_ | refine kStoreR ?_)
        all_goals refine ow_nil ?_)
    | refine cw_seq ?_
    | refine tq_n ?_
    | refine cw_skip ?_ | refine cw_ret ?_ | refine cw_exit ?_ | refine cw_block ?_ | refine cTrue ?_ | refine cFalse ?_ | refine cT ?_ | refine cF ?_ | refine cS (fun hc => ?_) (fun hc => ?_) | refine cB (fun hc => ?_) (fun hc => ?_)
    | refine tq_ret ?_ | refine tq_exit ?_ | refine bq_n ?_ | refine bq_ret ?_ | refine bq_same ?_ | refine bq_ne rfl ?_)
  · exact retQ_ret (retV_tmps [] rfl rfl) (by have h : s.had = false := by simpa using hc
                                              simp [St.sample, h]; rfl) (fun _ _ h => h)
  · rename_i hd
    exact retQ_end (retV_tmps [] rfl rfl) (by have h : s.had = true := by simpa using hd
                                              simp only [St.sample, h, if_pos hc, if_true]; cases s; simp only at h; subst h; rfl) (fun _ _ h => h)
  · rename_i hd
    exact retQ_end (retV_tmps [] rfl rfl) (by have h : s.had = true := by simpa using hd
                                              simp only [St.sample, h, if_neg hc, if_true]; cases s; simp only at h; subst h; rfl) (fun _ _ h => h)
def St.grow (s : St) (p : Pk) : St :=
  if p.asks = false ∨ p.at_ ≤ s.since ∨ 1073741824 < s.window then s
  else if s.window < s.mark then { s with window := s.window + p.size } else { s with window := s.window + 1200 * p.size / s.window }
theorem grow_spec (b : Nat) (s : St) (a : Option Nat) (cap : Nat) (p : Pk) (h0 : 1 ≤ s.window ∧ s.window ≤ 1099511627776) (h1 : 0 ≤ p.size ∧ p.size ≤ 65535) :
    Spec Go.Proofs.Try.prog 36 #[ptr b, .agg (encPk p).toArray] [blk b 63 (encS s a cap)] (fun v L => L = [blk b 63 (encS (s.grow p) a cap)]) := by
  refine spec_of (args := [ptr b, .agg (encPk p).toArray]) Go.Proofs.Try.func36 rfl rfl fun w0 hw0 => ?_
  have hq : 0 ≤ 1200 * p.size / s.window ∧ 1200 * p.size / s.window ≤ 1200 * p.size := ⟨Int.ediv_nonneg (by omega) (by omega), Int.ediv_le_self _ (by omega)⟩
  repeat' (first
    | (
        refine cw_region (id := 0) rfl ?_
        all_goals (refine ow_cons ?_; first | refine kBox (fun bN => ?_) | refine kBoxA (fun bN => ?_))
        all_goals refine ow_nil ?_)
    | (
        refine cw_draw (id := 2) 20 (by kernel_rfl) (by kernel_rfl) rfl ?_
        all_goals refine hField ?_
        all_goals refine hLoad ?_
        all_goals refine hNot ?_
        all_goals refine hMove ?_
        all_goals (refine hw_cons ?_; first | refine qNo ?_ | refine qUn ?_ | (refine qYes ?_; refine sField ?_) | (refine qTf ?_; refine sField ?_) | refine qFf ?_ | (refine qSf (fun hc => ?_) (fun hc => ?_); rotate_left; (focus (refine sField ?_)); rotate_right) | (refine qBf (fun hc => ?_) (fun hc => ?_); rotate_left; (focus (refine sField ?_)); rotate_right))
        all_goals (refine hw_cons ?_; first | refine qNo ?_ | refine qUn ?_ | (refine qYes ?_; refine sLoad ?_) | (refine qTf ?_; refine sLoad ?_) | refine qFf ?_ | (refine qSf (fun hc => ?_) (fun hc => ?_); rotate_left; (focus (refine sLoad ?_)); rotate_right) | (refine qBf (fun hc => ?_) (fun hc => ?_); rotate_left; (focus (refine sLoad ?_)); rotate_right))
        all_goals (refine hw_cons ?_; first | refine qNo ?_ | refine qUn ?_ | (refine qYes ?_; refine sMove ?_) | (refine qTf ?_; refine sMove ?_) | refine qFf ?_ | (refine qSf (fun hc => ?_) (fun hc => ?_); rotate_left; (focus (refine sMove ?_)); rotate_right) | (refine qBf (fun hc => ?_) (fun hc => ?_); rotate_left; (focus (refine sMove ?_)); rotate_right))
        all_goals (refine hw_cons ?_; first | refine qNo ?_ | refine qUn ?_ | (refine qYes ?_; refine sCheck ?_) | (refine qTf ?_; refine sCheck ?_) | refine qFf ?_ | (refine qSf (fun hc => ?_) (fun hc => ?_); rotate_left; (focus (refine sCheck ?_)); rotate_right) | (refine qBf (fun hc => ?_) (fun hc => ?_); rotate_left; (focus (refine sCheck ?_)); rotate_right))
        all_goals (refine hw_cons ?_; first | refine qNo ?_ | refine qUn ?_ | (refine qYes ?_; refine sField ?_) | (refine qTf ?_; refine sField ?_) | refine qFf ?_ | (refine qSf (fun hc => ?_) (fun hc => ?_); rotate_left; (focus (refine sField ?_)); rotate_right) | (refine qBf (fun hc => ?_) (fun hc => ?_); rotate_left; (focus (refine sField ?_)); rotate_right))
        all_goals (refine hw_cons ?_; first | refine qNo ?_ | refine qUn ?_ | (refine qYes ?_; refine sLoad ?_) | (refine qTf ?_; refine sLoad ?_) | refine qFf ?_ | (refine qSf (fun hc => ?_) (fun hc => ?_); rotate_left; (focus (refine sLoad ?_)); rotate_right) | (refine qBf (fun hc => ?_) (fun hc => ?_); rotate_left; (focus (refine sLoad ?_)); rotate_right))
        all_goals (refine hw_cons ?_; first | refine qNo ?_ | refine qUn ?_ | (refine qYes ?_; refine sLeq ?_) | (refine qTf ?_; refine sLeq ?_) | refine qFf ?_ | (refine qSf (fun hc => ?_) (fun hc => ?_); rotate_left; (focus (refine sLeq ?_)); rotate_right) | (refine qBf (fun hc => ?_) (fun hc => ?_); rotate_left; (focus (refine sLeq ?_)); rotate_right))
        all_goals refine hPick ?_
        all_goals refine hMove ?_
        all_goals (refine hw_cons ?_; first | refine qNo ?_ | refine qUn ?_ | (refine qYes ?_; refine sMove ?_) | (refine qTf ?_; refine sMove ?_) | refine qFf ?_ | (refine qSf (fun hc => ?_) (fun hc => ?_); rotate_left; (focus (refine sMove ?_)); rotate_right) | (refine qBf (fun hc => ?_) (fun hc => ?_); rotate_left; (focus (refine sMove ?_)); rotate_right))
        all_goals (refine hw_cons ?_; first | refine qNo ?_ | refine qUn ?_ | (refine qYes ?_; refine sCheck ?_) | (refine qTf ?_; refine sCheck ?_) | refine qFf ?_ | (refine qSf (fun hc => ?_) (fun hc => ?_); rotate_left; (focus (refine sCheck ?_)); rotate_right) | (refine qBf (fun hc => ?_) (fun hc => ?_); rotate_left; (focus (refine sCheck ?_)); rotate_right))
        all_goals (refine hw_cons ?_; first | refine qNo ?_ | refine qUn ?_ | (refine qYes ?_; refine sField ?_) | (refine qTf ?_; refine sField ?_) | refine qFf ?_ | (refine qSf (fun hc => ?_) (fun hc => ?_); rotate_left; (focus (refine sField ?_)); rotate_right) | (refine qBf (fun hc => ?_) (fun hc => ?_); rotate_left; (focus (refine sField ?_)); rotate_right))
        all_goals (refine hw_cons ?_; first | refine qNo ?_ | refine qUn ?_ | (refine qYes ?_; refine sLoad ?_) | (refine qTf ?_; refine sLoad ?_) | refine qFf ?_ | (refine qSf (fun hc => ?_) (fun hc => ?_); rotate_left; (focus (refine sLoad ?_)); rotate_right) | (refine qBf (fun hc => ?_) (fun hc => ?_); rotate_left; (focus (refine sLoad ?_)); rotate_right))
        all_goals (refine hw_cons ?_; first | refine qNo ?_ | refine qUn ?_ | (refine qYes ?_; refine sGtr ?_) | (refine qTf ?_; refine sGtr ?_) | refine qFf ?_ | (refine qSf (fun hc => ?_) (fun hc => ?_); rotate_left; (focus (refine sGtr ?_)); rotate_right) | (refine qBf (fun hc => ?_) (fun hc => ?_); rotate_left; (focus (refine sGtr ?_)); rotate_right))
        all_goals refine hPick ?_
        all_goals refine hAssign ?_
        all_goals refine hw_nil ?_
        all_goals refine ow_nil ?_)
    | (
        refine cw_draw (id := 3) 10 (by kernel_rfl) (by kernel_rfl) rfl ?_
        all_goals refine hMove ?_
        all_goals refine hCheck ?_
        all_goals refine hField ?_
        all_goals refine hLoad ?_
        all_goals refine hMove ?_
        all_goals refine hCheck ?_
        all_goals refine hField ?_
        all_goals refine hLoad ?_
        all_goals refine hLss ?_
        all_goals refine hAssign ?_
        all_goals refine hw_nil ?_
        all_goals refine ow_nil ?_)
    | (
        refine cw_draw (id := 4) 9 (by kernel_rfl) (by kernel_rfl) rfl ?_
        all_goals refine hMove ?_
        all_goals refine hCheck ?_
        all_goals refine hField ?_
        all_goals refine hLoad ?_
        all_goals refine hField ?_
        all_goals refine hLoad ?_
        all_goals refine hAdd ?_
        all_goals refine hCheck ?_
        all_goals refine hField ?_
        all_goals refine hw_nil ?_
        all_goals (refine ow_cons ?_; first | refine kStore ?_ | refine kStoreA ?_ | refine kStoreR ?_)
        all_goals refine ow_nil ?_)
    | (
        refine cw_draw (id := 1) 15 (by kernel_rfl) (by kernel_rfl) rfl ?_
        all_goals refine hMove ?_
        all_goals refine hCheck ?_
        all_goals refine hField ?_
        all_goals refine hLoad ?_
        all_goals refine hField ?_
        all_goals refine hLoad ?_
        all_goals refine hMul ?_
        all_goals refine hMove ?_
        all_goals refine hCheck ?_
        all_goals refine hField ?_
        all_goals refine hLoad ?_
        all_goals refine hQuo ?_
        all_goals refine hAdd ?_
        all_goals refine hCheck ?_
        all_goals refine hField ?_
        all_goals refine hw_nil ?_
        all_goals (refine ow_cons ?_; first | refine kStore ?_ | refine kStoreA ?_ | refine kStoreR ?_)
        all_goals refine ow_nil ?_)
    | refine cw_seq ?_
    | refine tq_n ?_
    | refine cw_skip ?_ | refine cw_ret ?_ | refine cw_exit ?_ | refine cw_block ?_ | refine cTrue ?_ | refine cFalse ?_ | refine cT ?_ | refine cF ?_ | refine cS (fun hc => ?_) (fun hc => ?_) | refine cB (fun hc => ?_) (fun hc => ?_)
    | refine tq_ret ?_ | refine tq_exit ?_ | refine bq_n ?_ | refine bq_ret ?_ | refine bq_same ?_ | refine bq_ne rfl ?_)
  · have h : p.asks = false := by simpa using hc
    exact retQ_end (retV_tmps [] rfl rfl) (by simp only [St.grow]; rw [if_pos (.inl h)]) (fun _ _ h => pick1 h selA)
  · exact retQ_end (retV_tmps [] rfl rfl) (by simp only [St.grow]; rw [if_pos (.inr (.inl hc))]) (fun _ _ h => pick1 h selA)
  · exact retQ_end (retV_tmps [] rfl rfl) (by simp only [St.grow]; rw [if_pos (.inr (.inr hc))]) (fun _ _ h => pick1 h selA)
  · rename_i h1 h2 h3
    have h : ¬ (p.asks = false ∨ p.at_ ≤ s.since ∨ 1073741824 < s.window) := by simp only [Bool.not_eq_false'] at h1; simp [h1]; omega
    exact retQ_end (retV_tmps [] rfl rfl) (by simp only [St.grow]; rw [if_neg h, if_pos hc]) (fun _ _ h => pick1 h selA)
  · rename_i h1 h2 h3
    have h : ¬ (p.asks = false ∨ p.at_ ≤ s.since ∨ 1073741824 < s.window) := by simp only [Bool.not_eq_false'] at h1; simp [h1]; omega
    exact retQ_end (retV_tmps [] rfl rfl) (by simp only [St.grow]; rw [if_neg h, if_neg hc]) (fun _ _ h => pick1 h selA)
end Go.Proofs.Ytomaldjedncjoaa.E
