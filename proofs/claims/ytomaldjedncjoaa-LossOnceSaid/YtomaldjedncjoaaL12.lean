/-
The law LossOnce, as the program's own code does it.
Conditions: each is said with its statement.
-/
import Derived.Test.YtomaldjedncjoaaM5
import Derived.Test.YtomaldjedncjoaaL11
import Derived.Test.YtomaldjedncjoaaE14
set_option linter.unusedVariables false
namespace Go.Proofs.Ytomaldjedncjoaa.E
open Go
set_option maxRecDepth 100000
set_option maxHeartbeats 4000000
structure Ev where
  what : Int
  n : Int
  size : Int
  asks : Bool
  sad : Option Addr
  scap : Nat
  spans : List Sp
  delay : Int
  wait : Int
def encEv (v : Ev) : List Value := [.int .i64 v.what, .int .i64 v.n, .int .i64 v.size, .bool v.asks, .slice v.sad v.spans.length v.scap, .int .i64 v.delay, .int .i64 v.wait]
def tEv : Ty Ev := ⟨7, encEv, fun _ => rfl, fun x v h => by simp [encEv] at h; rcases h with h | h | h | h | h | h | h <;> subst h <;> rfl⟩
/-- A row of events that came in: only read. -/
def evsH (ad : Option Addr) (evs : List Ev) : Heap := ro ad tEv evs :: evs.map fun v => ro v.sad tSp v.spans
theorem evsH_noW (ad : Option Addr) (evs : List Ev) : ∀ x ∈ evsH ad evs, ∀ b, ¬ x.W b := fun x hx b hb => by
  rcases List.mem_cons.1 hx with rfl | hx
  · exact hb
  · obtain ⟨v, _, rfl⟩ := List.mem_map.1 hx; exact hb
theorem evsH_mem {ad : Option Addr} {evs : List Ev} {i : Nat} {v : Ev} (h : evs[i]? = some v) : ro v.sad tSp v.spans ∈ evsH ad evs := List.mem_cons.2 (.inr (List.mem_map.2 ⟨v, List.mem_of_getElem? h, rfl⟩))
theorem evs_copy {w0 w : World} {A0 F : Heap} {ad : Option Addr} {evs : List Ev} {i : Nat} {v : Ev} (hv : evs[i]? = some v) (h : Tr w0 A0 w (F ++ evsH ad evs)) : Tr w0 A0 w (F ++ ([ro ad tEv evs, ro v.sad tSp v.spans] ++ evsH ad evs)) := by
  have h1 := tr_copy (x := ro v.sad tSp v.spans) (List.mem_append_right _ (evsH_mem hv)) (ro_noW _ _ _) h
  have h2 := tr_copy (x := ro ad tEv evs) (List.mem_cons.2 (.inr (List.mem_append_right _ (by simp [evsH])))) (ro_noW _ _ _) h1
  exact h2.perm (List.perm_append_comm_assoc [ro ad tEv evs, ro v.sad tSp v.spans] F (evsH ad evs))
theorem onceSent (b : Nat) (a : Option Nat) (cap : Nat) {s : St} {l : List (Int × Bool)} {now n : Int} (h : OnceI s l now) (hn : 1 ≤ n ∧ n ≤ 2000) (hl : l.length ≤ 1000) (k : Nat) (hk : k = l.length) :
    Spec Go.Proofs.Try.prog 10 #[ptr b, i6 k, i6 n, .bool true, i6 now] (stR b s a cap) (fun v L => ∃ a' cap', v = i6 0 ∧ L = stR b (s.sent l.length n true now) a' cap') := by
  subst hk
  refine (sent_spec b s a cap l.length n true now ?_ h.ok.fl).mono ?_
  · have := h.ok.len; omega
  rintro v L (⟨h1, _⟩ | ⟨_, rfl, a', cap', rfl⟩)
  · exact absurd h1 (once_good h hn hl)
  · exact ⟨a', cap', rfl, rfl⟩
theorem once4 (ad : Option Addr) (cap : Nat) (evs : List Ev) :
    Spec Go.Proofs.Try.prog 4 #[.slice ad evs.length cap] (evsH ad evs) (fun v L => v = .bool true ∧ L = []) := by
  refine spec_of (args := [.slice ad evs.length cap]) Go.Proofs.Try.func4 rfl rfl fun w0 hw0 => ?_
  repeat' (first
    | (
        refine cw_region (id := 0) rfl ?_
        all_goals refine wAssign ?_
        all_goals refine ow_nil ?_)
    | (
        refine cw_region (id := 1) rfl ?_
        all_goals (refine ow_cons ?_; (refine st_call rfl travels8 (.nil _) ?_; rintro v L' ⟨rfl, rfl⟩))
        all_goals refine wNot ?_
        all_goals refine ow_nil ?_)
    | (
        refine cw_region (id := 2) rfl ?_
        all_goals refine wAssign ?_
        all_goals refine ow_nil ?_)
    | (
        refine cw_region (id := 3) rfl ?_
        all_goals (refine ow_cons ?_; (refine st_call rfl new_spec (.nil _) ?_; rintro v L' ⟨b, rfl, rfl⟩))
        all_goals refine wAssign ?_
        all_goals refine ow_nil ?_)
    | (
        refine cw_region (id := 4) rfl ?_
        all_goals refine wAssign ?_
        all_goals refine ow_nil ?_)
    | (
        refine cw_region (id := 5) rfl ?_
        all_goals refine wAssign ?_
        all_goals refine ow_nil ?_)
    | (
        refine cw_region (id := 6) rfl ?_
        all_goals refine wAssign ?_
        all_goals refine ow_nil ?_)
    | (
        refine cw_region (id := 7) rfl ?_
        all_goals refine wAssign ?_
        all_goals refine ow_nil ?_)
    | (
        refine cw_region (id := 8) rfl ?_
        all_goals refine wMove ?_
        all_goals refine wMove ?_
        all_goals refine wLen ?_
        all_goals refine wLss ?_
        all_goals refine wMove ?_
        all_goals (refine ow_cons ?_; first | (refine gTt ?_; refine kMove ?_) | refine gFt ?_ | refine gNo ?_ | refine gUn ?_ | (refine gYes ?_; refine kMove ?_) | (refine gSt (fun hc => ?_) (fun hc => ?_); (focus (refine kMove ?_))) | (refine gBt (fun hc => ?_) (fun hc => ?_); (focus (refine kMove ?_))))
        all_goals (refine ow_cons ?_; first | (refine gTt ?_; refine kLss ?_) | refine gFt ?_ | refine gNo ?_ | refine gUn ?_ | (refine gYes ?_; refine kLss ?_) | (refine gSt (fun hc => ?_) (fun hc => ?_); (focus (refine kLss ?_))) | (refine gBt (fun hc => ?_) (fun hc => ?_); (focus (refine kLss ?_))))
        all_goals refine wPick ?_
        all_goals refine ow_nil ?_)
    | (
        refine cw_region (id := 10) rfl ?_
        all_goals refine wMove ?_
        all_goals refine wMove ?_
        all_goals (refine ow_cons ?_; first | refine kIndex ?_ | (refine kIdxR (fun g hg => ?_); subst hg) | (refine kIdxO (fun gb go hg => ?_); subst hg))
        all_goals refine wLoad ?_
        all_goals (refine ow_cons ?_; refine st_alloc (fun bN => ?_))
        all_goals (refine ow_cons ?_; first | refine kStore ?_ | refine kStoreA ?_ | refine kStoreR ?_)
        all_goals refine ow_nil ?_)
    | (
        refine cw_region (id := 11) rfl ?_
        all_goals refine wMove ?_
        all_goals refine wField ?_
        all_goals refine wLoad ?_
        all_goals refine wConv ?_
        all_goals refine wRem ?_
        all_goals refine wConv ?_
        all_goals refine wAdd ?_
        all_goals refine wMin ?_
        all_goals refine wAssign ?_
        all_goals refine ow_nil ?_)
    | (
        refine cw_region (id := 12) rfl ?_
        all_goals refine wAssign ?_
        all_goals refine ow_nil ?_)
    | (
        refine cw_region (id := 13) rfl ?_
        all_goals refine wField ?_
        all_goals refine wLoad ?_
        all_goals refine ow_nil ?_)
    | (
        refine cw_region (id := 18) rfl ?_
        all_goals refine wEql ?_
        all_goals refine wAssign ?_
        all_goals refine ow_nil ?_)
    | (
        refine cw_region (id := 19) rfl ?_
        all_goals refine wAssign ?_
        all_goals refine ow_nil ?_)
    | (
        refine cw_region (id := 20) rfl ?_
        all_goals refine wAssign ?_
        all_goals refine ow_nil ?_)
    | (
        refine cw_region (id := 21) rfl ?_
        all_goals refine wMove ?_
        all_goals refine wField ?_
        all_goals refine wLoad ?_
        all_goals refine wLen ?_
        all_goals refine wLss ?_
        all_goals refine wMove ?_
        all_goals (refine ow_cons ?_; first | (refine gTt ?_; refine kMove ?_) | refine gFt ?_ | refine gNo ?_ | refine gUn ?_ | (refine gYes ?_; refine kMove ?_) | (refine gSt (fun hc => ?_) (fun hc => ?_); (focus (refine kMove ?_))) | (refine gBt (fun hc => ?_) (fun hc => ?_); (focus (refine kMove ?_))))
        all_goals (refine ow_cons ?_; first | (refine gTt ?_; refine kLss ?_) | refine gFt ?_ | refine gNo ?_ | refine gUn ?_ | (refine gYes ?_; refine kLss ?_) | (refine gSt (fun hc => ?_) (fun hc => ?_); (focus (refine kLss ?_))) | (refine gBt (fun hc => ?_) (fun hc => ?_); (focus (refine kLss ?_))))
        all_goals refine wPick ?_
        all_goals refine wMove ?_
        all_goals (refine ow_cons ?_; first | (refine gTt ?_; refine kMove ?_) | refine gFt ?_ | refine gNo ?_ | refine gUn ?_ | (refine gYes ?_; refine kMove ?_) | (refine gSt (fun hc => ?_) (fun hc => ?_); (focus (refine kMove ?_))) | (refine gBt (fun hc => ?_) (fun hc => ?_); (focus (refine kMove ?_))))
        all_goals (refine ow_cons ?_; first | (refine gTt ?_; refine kLen ?_) | refine gFt ?_ | refine gNo ?_ | refine gUn ?_ | (refine gYes ?_; refine kLen ?_) | (refine gSt (fun hc => ?_) (fun hc => ?_); (focus (refine kLen ?_))) | (refine gBt (fun hc => ?_) (fun hc => ?_); (focus (refine kLen ?_))))
        all_goals (refine ow_cons ?_; first | (refine gTt ?_; refine kGtr ?_) | refine gFt ?_ | refine gNo ?_ | refine gUn ?_ | (refine gYes ?_; refine kGtr ?_) | (refine gSt (fun hc => ?_) (fun hc => ?_); (focus (refine kGtr ?_))) | (refine gBt (fun hc => ?_) (fun hc => ?_); (focus (refine kGtr ?_))))
        all_goals refine wPick ?_
        all_goals refine ow_nil ?_)
    | (
        refine cw_draw (id := 23) 26 (by kernel_rfl) (by kernel_rfl) rfl ?_
        all_goals refine hField ?_
        all_goals refine hLoad ?_
        all_goals refine hMove ?_
        all_goals refine hIndex ?_
        all_goals refine hField ?_
        all_goals refine hLoad ?_
        all_goals refine hConv ?_
        all_goals refine hMove ?_
        all_goals refine hLen ?_
        all_goals refine hConv ?_
        all_goals refine hRem ?_
        all_goals refine hConv ?_
        all_goals refine hField ?_
        all_goals refine hLoad ?_
        all_goals refine hMove ?_
        all_goals refine hIndex ?_
        all_goals refine hField ?_
        all_goals refine hLoad ?_
        all_goals refine hConv ?_
        all_goals refine hMove ?_
        all_goals refine hLen ?_
        all_goals refine hConv ?_
        all_goals refine hRem ?_
        all_goals refine hConv ?_
        all_goals refine hAssign ?_
        all_goals refine hAssign ?_
        all_goals refine hw_nil ?_
        all_goals refine ow_nil ?_)
    | (
        refine cw_region (id := 22) rfl ?_
        all_goals refine wMove ?_
        all_goals refine wAdd ?_
        all_goals refine wAssign ?_
        all_goals refine ow_nil ?_)
    | (
        refine cw_region (id := 26) rfl ?_
        all_goals refine wMove ?_
        all_goals refine wNeq ?_
        all_goals refine ow_nil ?_)
    | (
        refine cw_region (id := 27) rfl ?_
        all_goals refine wAssign ?_
        all_goals refine ow_nil ?_)
    | (
        refine cw_region (id := 29) rfl ?_
        all_goals refine wEql ?_
        all_goals refine wAssign ?_
        all_goals refine ow_nil ?_)
    | (
        refine cw_region (id := 31) rfl ?_
        all_goals refine wMove ?_
        all_goals refine wNeq ?_
        all_goals refine ow_nil ?_)
    | (
        refine cw_region (id := 32) rfl ?_
        all_goals refine wAssign ?_
        all_goals refine ow_nil ?_)
    | (
        refine cw_region (id := 33) rfl ?_
        all_goals refine wMove ?_
        all_goals refine wAssign ?_
        all_goals refine ow_nil ?_)
    | (
        refine cw_region (id := 14) rfl ?_
        all_goals refine wField ?_
        all_goals refine wLoad ?_
        all_goals refine wConv ?_
        all_goals refine wRem ?_
        all_goals refine wConv ?_
        all_goals refine wAdd ?_
        all_goals refine wAssign ?_
        all_goals refine ow_nil ?_)
    | (
        refine cw_region (id := 16) rfl ?_
        all_goals refine wAssign ?_
        all_goals refine ow_nil ?_)
    | (
        refine cw_region (id := 34) rfl ?_
        all_goals refine wAssign ?_
        all_goals refine ow_nil ?_)
    | (
        refine cw_region (id := 35) rfl ?_
        all_goals refine wMove ?_
        all_goals refine wMove ?_
        all_goals refine wLen ?_
        all_goals refine wLss ?_
        all_goals refine ow_nil ?_)
    | (
        refine cw_region (id := 37) rfl ?_
        all_goals refine wMove ?_
        all_goals refine wMove ?_
        all_goals (refine ow_cons ?_; first | refine kIndex ?_ | (refine kIdxR (fun g hg => ?_); subst hg) | (refine kIdxO (fun gb go hg => ?_); subst hg))
        all_goals refine wLoad ?_
        all_goals refine wLss ?_
        all_goals refine wMove ?_
        all_goals (refine ow_cons ?_; first | (refine gTf ?_; refine kMove ?_) | refine gFf ?_ | refine gNo ?_ | refine gUn ?_ | (refine gYes ?_; refine kMove ?_) | (refine gSf (fun hc => ?_) (fun hc => ?_); rotate_left; (focus (refine kMove ?_)); rotate_right) | (refine gBf (fun hc => ?_) (fun hc => ?_); rotate_left; (focus (refine kMove ?_)); rotate_right))
        all_goals (refine ow_cons ?_; first | (refine gTf ?_; refine kMove ?_) | refine gFf ?_ | refine gNo ?_ | refine gUn ?_ | (refine gYes ?_; refine kMove ?_) | (refine gSf (fun hc => ?_) (fun hc => ?_); rotate_left; (focus (refine kMove ?_)); rotate_right) | (refine gBf (fun hc => ?_) (fun hc => ?_); rotate_left; (focus (refine kMove ?_)); rotate_right))
        all_goals (refine ow_cons ?_; first | (refine gTf ?_; first | refine kIndex ?_ | (refine kIdxR (fun g hg => ?_); subst hg) | (refine kIdxO (fun gb go hg => ?_); subst hg)) | refine gFf ?_ | refine gNo ?_ | refine gUn ?_ | (refine gYes ?_; first | refine kIndex ?_ | (refine kIdxR (fun g hg => ?_); subst hg) | (refine kIdxO (fun gb go hg => ?_); subst hg)) | (refine gSf (fun hc => ?_) (fun hc => ?_); rotate_left; (focus (first | refine kIndex ?_ | (refine kIdxR (fun g hg => ?_); subst hg) | (refine kIdxO (fun gb go hg => ?_); subst hg))); rotate_right) | (refine gBf (fun hc => ?_) (fun hc => ?_); rotate_left; (focus (first | refine kIndex ?_ | (refine kIdxR (fun g hg => ?_); subst hg) | (refine kIdxO (fun gb go hg => ?_); subst hg))); rotate_right))
        all_goals (refine ow_cons ?_; first | (refine gTf ?_; refine kLoad ?_) | refine gFf ?_ | refine gNo ?_ | refine gUn ?_ | (refine gYes ?_; refine kLoad ?_) | (refine gSf (fun hc => ?_) (fun hc => ?_); rotate_left; (focus (refine kLoad ?_)); rotate_right) | (refine gBf (fun hc => ?_) (fun hc => ?_); rotate_left; (focus (refine kLoad ?_)); rotate_right))
        all_goals (refine ow_cons ?_; first | (refine gTf ?_; refine kMove ?_) | refine gFf ?_ | refine gNo ?_ | refine gUn ?_ | (refine gYes ?_; refine kMove ?_) | (refine gSf (fun hc => ?_) (fun hc => ?_); rotate_left; (focus (refine kMove ?_)); rotate_right) | (refine gBf (fun hc => ?_) (fun hc => ?_); rotate_left; (focus (refine kMove ?_)); rotate_right))
        all_goals (refine ow_cons ?_; first | (refine gTf ?_; refine kLen ?_) | refine gFf ?_ | refine gNo ?_ | refine gUn ?_ | (refine gYes ?_; refine kLen ?_) | (refine gSf (fun hc => ?_) (fun hc => ?_); rotate_left; (focus (refine kLen ?_)); rotate_right) | (refine gBf (fun hc => ?_) (fun hc => ?_); rotate_left; (focus (refine kLen ?_)); rotate_right))
        all_goals (refine ow_cons ?_; first | (refine gTf ?_; refine kGeq ?_) | refine gFf ?_ | refine gNo ?_ | refine gUn ?_ | (refine gYes ?_; refine kGeq ?_) | (refine gSf (fun hc => ?_) (fun hc => ?_); rotate_left; (focus (refine kGeq ?_)); rotate_right) | (refine gBf (fun hc => ?_) (fun hc => ?_); rotate_left; (focus (refine kGeq ?_)); rotate_right))
        all_goals refine wPick ?_
        all_goals refine wMove ?_
        all_goals (refine ow_cons ?_; first | (refine gTf ?_; refine kMove ?_) | refine gFf ?_ | refine gNo ?_ | refine gUn ?_ | (refine gYes ?_; refine kMove ?_) | (refine gSf (fun hc => ?_) (fun hc => ?_); rotate_left; (focus (refine kMove ?_)); rotate_right) | (refine gBf (fun hc => ?_) (fun hc => ?_); rotate_left; (focus (refine kMove ?_)); rotate_right))
        all_goals (refine ow_cons ?_; first | (refine gTf ?_; refine kMove ?_) | refine gFf ?_ | refine gNo ?_ | refine gUn ?_ | (refine gYes ?_; refine kMove ?_) | (refine gSf (fun hc => ?_) (fun hc => ?_); rotate_left; (focus (refine kMove ?_)); rotate_right) | (refine gBf (fun hc => ?_) (fun hc => ?_); rotate_left; (focus (refine kMove ?_)); rotate_right))
        all_goals (refine ow_cons ?_; first | (refine gTf ?_; refine kMove ?_) | refine gFf ?_ | refine gNo ?_ | refine gUn ?_ | (refine gYes ?_; refine kMove ?_) | (refine gSf (fun hc => ?_) (fun hc => ?_); rotate_left; (focus (refine kMove ?_)); rotate_right) | (refine gBf (fun hc => ?_) (fun hc => ?_); rotate_left; (focus (refine kMove ?_)); rotate_right))
        all_goals (refine ow_cons ?_; first | (refine gTf ?_; first | refine kIndex ?_ | (refine kIdxR (fun g hg => ?_); subst hg) | (refine kIdxO (fun gb go hg => ?_); subst hg)) | refine gFf ?_ | refine gNo ?_ | refine gUn ?_ | (refine gYes ?_; first | refine kIndex ?_ | (refine kIdxR (fun g hg => ?_); subst hg) | (refine kIdxO (fun gb go hg => ?_); subst hg)) | (refine gSf (fun hc => ?_) (fun hc => ?_); rotate_left; (focus (first | refine kIndex ?_ | (refine kIdxR (fun g hg => ?_); subst hg) | (refine kIdxO (fun gb go hg => ?_); subst hg))); rotate_right) | (refine gBf (fun hc => ?_) (fun hc => ?_); rotate_left; (focus (first | refine kIndex ?_ | (refine kIdxR (fun g hg => ?_); subst hg) | (refine kIdxO (fun gb go hg => ?_); subst hg))); rotate_right))
        all_goals (refine ow_cons ?_; first | (refine gTf ?_; refine kLoad ?_) | refine gFf ?_ | refine gNo ?_ | refine gUn ?_ | (refine gYes ?_; refine kLoad ?_) | (refine gSf (fun hc => ?_) (fun hc => ?_); rotate_left; (focus (refine kLoad ?_)); rotate_right) | (refine gBf (fun hc => ?_) (fun hc => ?_); rotate_left; (focus (refine kLoad ?_)); rotate_right))
        all_goals (refine ow_cons ?_; first | (refine gTf ?_; first | refine kIndex ?_ | (refine kIdxR (fun g hg => ?_); subst hg) | (refine kIdxO (fun gb go hg => ?_); subst hg)) | refine gFf ?_ | refine gNo ?_ | refine gUn ?_ | (refine gYes ?_; first | refine kIndex ?_ | (refine kIdxR (fun g hg => ?_); subst hg) | (refine kIdxO (fun gb go hg => ?_); subst hg)) | (refine gSf (fun hc => ?_) (fun hc => ?_); rotate_left; (focus (first | refine kIndex ?_ | (refine kIdxR (fun g hg => ?_); subst hg) | (refine kIdxO (fun gb go hg => ?_); subst hg))); rotate_right) | (refine gBf (fun hc => ?_) (fun hc => ?_); rotate_left; (focus (first | refine kIndex ?_ | (refine kIdxR (fun g hg => ?_); subst hg) | (refine kIdxO (fun gb go hg => ?_); subst hg))); rotate_right))
        all_goals (refine ow_cons ?_; first | (refine gTf ?_; refine kLoad ?_) | refine gFf ?_ | refine gNo ?_ | refine gUn ?_ | (refine gYes ?_; refine kLoad ?_) | (refine gSf (fun hc => ?_) (fun hc => ?_); rotate_left; (focus (refine kLoad ?_)); rotate_right) | (refine gBf (fun hc => ?_) (fun hc => ?_); rotate_left; (focus (refine kLoad ?_)); rotate_right))
        all_goals refine wPick ?_
        all_goals refine ow_nil ?_)
    | (
        refine cw_region (id := 38) rfl ?_
        all_goals refine wAssign ?_
        all_goals refine ow_nil ?_)
    | (
        refine cw_region (id := 39) rfl ?_
        all_goals refine wMove ?_
        all_goals refine wMove ?_
        all_goals refine wMove ?_
        all_goals (refine ow_cons ?_; first | refine kIndex ?_ | (refine kIdxR (fun g hg => ?_); subst hg) | (refine kIdxO (fun gb go hg => ?_); subst hg))
        all_goals refine wLoad ?_
        all_goals (refine ow_cons ?_; first | refine kIndex ?_ | (refine kIdxR (fun g hg => ?_); subst hg) | (refine kIdxO (fun gb go hg => ?_); subst hg))
        all_goals (refine ow_cons ?_; first | refine kStore ?_ | refine kStoreA ?_ | refine kStoreR ?_)
        all_goals refine ow_nil ?_)
    | (
        refine cw_region (id := 36) rfl ?_
        all_goals refine wMove ?_
        all_goals refine wAdd ?_
        all_goals refine wAssign ?_
        all_goals refine ow_nil ?_)
    | (
        refine cw_region (id := 40) rfl ?_
        all_goals refine wAssign ?_
        all_goals refine ow_nil ?_)
    | (
        refine cw_region (id := 41) rfl ?_
        all_goals refine wAssign ?_
        all_goals refine ow_nil ?_)
    | (
        refine cw_region (id := 42) rfl ?_
        all_goals refine wMove ?_
        all_goals refine wMove ?_
        all_goals refine wLen ?_
        all_goals refine wLss ?_
        all_goals refine ow_nil ?_)
    | (
        refine cw_region (id := 44) rfl ?_
        all_goals refine wMove ?_
        all_goals refine wMove ?_
        all_goals (refine ow_cons ?_; first | refine kIndex ?_ | (refine kIdxR (fun g hg => ?_); subst hg) | (refine kIdxO (fun gb go hg => ?_); subst hg))
        all_goals refine wLoad ?_
        all_goals refine wNot ?_
        all_goals refine ow_nil ?_)
    | (
        refine cw_region (id := 45) rfl ?_
        all_goals refine wMove ?_
        all_goals refine wMove ?_
        all_goals refine wMove ?_
        all_goals (refine ow_cons ?_; first | refine kIndex ?_ | (refine kIdxR (fun g hg => ?_); subst hg) | (refine kIdxO (fun gb go hg => ?_); subst hg))
        all_goals refine wLoad ?_
        all_goals refine wAdd ?_
        all_goals refine wAssign ?_
        all_goals refine ow_nil ?_)
    | (
        refine cw_region (id := 43) rfl ?_
        all_goals refine wMove ?_
        all_goals refine wAdd ?_
        all_goals refine wAssign ?_
        all_goals refine ow_nil ?_)
    | (
        refine cw_region (id := 47) rfl ?_
        all_goals refine wAssign ?_
        all_goals refine ow_nil ?_)
    | (
        refine cw_region (id := 9) rfl ?_
        all_goals refine wMove ?_
        all_goals refine wAdd ?_
        all_goals refine wAssign ?_
        all_goals refine ow_nil ?_)
    | (
        refine cw_region (id := 48) rfl ?_
        all_goals refine wAssign ?_
        all_goals refine ow_nil ?_)
    | refine cw_seq ?_
    | refine tq_n ?_
    | (refine isCW ?_; first | refine cw_region rfl ?_ | refine cw_skip ?_ | refine cw_ret ?_ | refine cw_exit ?_ | refine cw_block ?_ | refine cT ?_ | refine cF ?_ | refine cTrue ?_ | refine cFalse ?_ | refine cS (fun hc => ?_) (fun hc => ?_) | refine cB (fun hc => ?_) (fun hc => ?_))
    | refine tq_ret ?_ | refine tq_exit ?_ | refine bq_n ?_ | refine bq_ret ?_ | refine bq_same ?_ | refine bq_ne rfl ?_
    | refine ow_cons ?_ | refine ow_nil ?_
    | (refine isOpK ?_; first
      | (refine isG ?_; first | refine opk_yes rfl rfl ?_ | refine opk_no rfl rfl ?_ | refine opk_no_undef rfl rfl ?_ | refine opk_g_t rfl rfl (by omega) ?_ | refine opk_g_f rfl rfl (by omega) ?_ | refine opk_g_s rfl rfl (fun hc => ?_) (fun hc => ?_) | refine opk_g_b rfl rfl (fun hc => ?_) (fun hc => ?_))
      | refine kRd ?_
      | refine kStore ?_
      | refine kStoreA ?_
      | refine kStoreR ?_
      | (refine kIdxR (fun g hg => ?_); subst hg)
      | (refine kIdxO (fun gb go hg => ?_); subst hg)
      | refine st_alloc (fun bN => ?_)
      | refine kBox (fun bN => ?_)
      | refine kBoxA (fun bN => ?_)
      | (refine st_buildSlice rfl rfl rfl rfl (fun bN => ?_))
      | (refine st_clearR rfl selA rfl (by omega) rfl rfl rfl ?_)
      | (refine st_clearR rfl selA (by omega) (by omega) rfl rfl rfl ?_)
      | (refine st_call rfl travels8 (.nil _) ?_; rintro v L' ⟨rfl, rfl⟩)
      | (refine st_call rfl new_spec (.nil _) ?_; rintro v L' ⟨b, rfl, rfl⟩))
    | refine hw_cons ?_ | refine hw_nil ?_
    | (refine isOpS ?_; first
      | (refine os_isG ?_; first | refine os_yes rfl rfl ?_ | refine os_no rfl rfl ?_ | refine os_no_undef rfl rfl ?_ | refine os_g_t rfl rfl (by omega) ?_ | refine os_g_f rfl rfl (by omega) ?_ | refine os_g_s rfl rfl (fun hc => ?_) (fun hc => ?_) | refine os_g_b rfl rfl (fun hc => ?_) (fun hc => ?_))
      | refine sRd ?_))
  refine cw_rounds (S := fun g : Nat × St × Option Nat × Nat × List (Int × Bool) × Option Nat × Nat × Option Nat × Nat × Int => [(0, .slice ad evs.length cap), (2, .bool false), (3, ptr b), (4, .slice (oad g.2.2.2.2.2.1) (g.2.2.2.2.1.map (·.1)).length g.2.2.2.2.2.2.1), (5, .slice (oad g.2.2.2.2.2.2.2.1) (g.2.2.2.2.1.map (·.2)).length g.2.2.2.2.2.2.2.2.1), (6, i6 g.2.2.2.2.2.2.2.2.2), (7, .int .i64 (g.1 : Nat))])
    (H := fun g => stR b g.2.1 g.2.2.1 g.2.2.2.1 ++ ([row g.2.2.2.2.2.1 3 g.2.2.2.2.2.2.1 (tInt .i64) (g.2.2.2.2.1.map (·.1)), row g.2.2.2.2.2.2.2.1 4 g.2.2.2.2.2.2.2.2.1 tBool (g.2.2.2.2.1.map (·.2))] ++ evsH ad evs))
    (V := fun g => g.1 ≤ 80 ∧ g.2.2.2.2.1.length ≤ g.1 ∧ OnceI g.2.1 g.2.2.2.2.1 g.2.2.2.2.2.2.2.2.2) (μ := fun g => 80 - g.1) (0, newS, none, 0, [], none, 0, none, 0, 0)
    ⟨rfl, rfl, rfl, rfl, rfl, rfl, rfl, trivial⟩ ⟨by decide, by decide, once_new⟩ (fun w h => pickL (tr_addNil 3 (tInt .i64) (tr_addNil 4 tBool h)) (.cons (sel_app [_, _] sel0) (.cons (sel_app [_, _] sel0) (.cons sel0 (.cons sel0 (selL_all _)))))) ?_
  rintro ⟨i, s, a, c, l, az, cz, at_, ct, now⟩ e' ⟨hi, hil, hI⟩
  simp only at hi hil hI
  dsimp only [upds]
  unfold stR
  by_cases hlt : i < evs.length ∧ i < 80
  · obtain ⟨hl1, hl2⟩ := hlt
    obtain ⟨⟨what, en, size, asks, sad, scap, spans, delay, wait⟩, hvi⟩ : ∃ v, evs[i]? = some v := ⟨_, List.getElem?_eq_getElem hl1⟩
    have hnb := hI.nowb
    obtain ⟨now2, hn2⟩ : ∃ t, min (now + wait % 18446744073709551616 % 1000) 1099511627776 = t := ⟨_, rfl⟩
    have hI2 := hI.later (t := now2) (by omega)
    have hf1 : (l.map (·.1)).length = l.length := List.length_map _
    have hf2 : (l.map (·.2)).length = l.length := List.length_map _
    refine CW.heap (L' := [blk b 63 (encS s a c), row a 66 c tPk s.waits, row az 3 cz (tInt .i64) (l.map (·.1)), row at_ 4 ct tBool (l.map (·.2)), ro ad tEv evs, ro sad tSp spans] ++ evsH ad evs) ?_ (fun w h => evs_copy (F := [blk b 63 (encS s a c), row a 66 c tPk s.waits, row az 3 cz (tInt .i64) (l.map (·.1)), row at_ 4 ct tBool (l.map (·.2))]) hvi h)
    repeat' ((fail_if_success (refine isSeqR (id := 13) ?_)); first
      | (
          refine cw_region (id := 0) rfl ?_
          all_goals refine wAssign ?_
          all_goals refine ow_nil ?_)
      | (
          refine cw_region (id := 2) rfl ?_
          all_goals refine wAssign ?_
          all_goals refine ow_nil ?_)
      | (
          refine cw_region (id := 4) rfl ?_
          all_goals refine wAssign ?_
          all_goals refine ow_nil ?_)
      | (
          refine cw_region (id := 5) rfl ?_
          all_goals refine wAssign ?_
          all_goals refine ow_nil ?_)
      | (
          refine cw_region (id := 6) rfl ?_
          all_goals refine wAssign ?_
          all_goals refine ow_nil ?_)
      | (
          refine cw_region (id := 7) rfl ?_
          all_goals refine wAssign ?_
          all_goals refine ow_nil ?_)
      | (
          refine cw_region (id := 8) rfl ?_
          all_goals refine wMove ?_
          all_goals refine wMove ?_
          all_goals refine wLen ?_
          all_goals refine wLss ?_
          all_goals refine wMove ?_
          all_goals (refine ow_cons ?_; first | (refine gTt ?_; refine kMove ?_) | refine gFt ?_ | refine gNo ?_ | refine gUn ?_ | (refine gYes ?_; refine kMove ?_) | (refine gSt (fun hc => ?_) (fun hc => ?_); (focus (refine kMove ?_))) | (refine gBt (fun hc => ?_) (fun hc => ?_); (focus (refine kMove ?_))))
          all_goals (refine ow_cons ?_; first | (refine gTt ?_; refine kLss ?_) | refine gFt ?_ | refine gNo ?_ | refine gUn ?_ | (refine gYes ?_; refine kLss ?_) | (refine gSt (fun hc => ?_) (fun hc => ?_); (focus (refine kLss ?_))) | (refine gBt (fun hc => ?_) (fun hc => ?_); (focus (refine kLss ?_))))
          all_goals refine wPick ?_
          all_goals refine ow_nil ?_)
      | (
          refine cw_region (id := 10) rfl ?_
          all_goals refine wMove ?_
          all_goals refine wMove ?_
          all_goals (refine ow_cons ?_; first | refine kIndex ?_ | (refine kIdxR (fun g hg => ?_); subst hg) | (refine kIdxO (fun gb go hg => ?_); subst hg))
          all_goals refine wLoad ?_
          all_goals (refine ow_cons ?_; refine st_alloc (fun bN => ?_))
          all_goals (refine ow_cons ?_; first | refine kStore ?_ | refine kStoreA ?_ | refine kStoreR ?_)
          all_goals refine ow_nil ?_)
      | (
          refine cw_region (id := 11) rfl ?_
          all_goals refine wMove ?_
          all_goals refine wField ?_
          all_goals refine wLoad ?_
          all_goals refine wConv ?_
          all_goals refine wRem ?_
          all_goals refine wConv ?_
          all_goals refine wAdd ?_
          all_goals refine wMin ?_
          all_goals refine wAssign ?_
          all_goals refine ow_nil ?_)
      | (
          refine cw_region (id := 12) rfl ?_
          all_goals refine wAssign ?_
          all_goals refine ow_nil ?_)
      | (
          refine cw_region (id := 13) rfl ?_
          all_goals refine wField ?_
          all_goals refine wLoad ?_
          all_goals refine ow_nil ?_)
      | (
          refine cw_region (id := 18) rfl ?_
          all_goals refine wEql ?_
          all_goals refine wAssign ?_
          all_goals refine ow_nil ?_)
      | (
          refine cw_region (id := 19) rfl ?_
          all_goals refine wAssign ?_
          all_goals refine ow_nil ?_)
      | (
          refine cw_region (id := 20) rfl ?_
          all_goals refine wAssign ?_
          all_goals refine ow_nil ?_)
      | (
          refine cw_region (id := 21) rfl ?_
          all_goals refine wMove ?_
          all_goals refine wField ?_
          all_goals refine wLoad ?_
          all_goals refine wLen ?_
          all_goals refine wLss ?_
          all_goals refine wMove ?_
          all_goals (refine ow_cons ?_; first | (refine gTt ?_; refine kMove ?_) | refine gFt ?_ | refine gNo ?_ | refine gUn ?_ | (refine gYes ?_; refine kMove ?_) | (refine gSt (fun hc => ?_) (fun hc => ?_); (focus (refine kMove ?_))) | (refine gBt (fun hc => ?_) (fun hc => ?_); (focus (refine kMove ?_))))
          all_goals (refine ow_cons ?_; first | (refine gTt ?_; refine kLss ?_) | refine gFt ?_ | refine gNo ?_ | refine gUn ?_ | (refine gYes ?_; refine kLss ?_) | (refine gSt (fun hc => ?_) (fun hc => ?_); (focus (refine kLss ?_))) | (refine gBt (fun hc => ?_) (fun hc => ?_); (focus (refine kLss ?_))))
          all_goals refine wPick ?_
          all_goals refine wMove ?_
          all_goals (refine ow_cons ?_; first | (refine gTt ?_; refine kMove ?_) | refine gFt ?_ | refine gNo ?_ | refine gUn ?_ | (refine gYes ?_; refine kMove ?_) | (refine gSt (fun hc => ?_) (fun hc => ?_); (focus (refine kMove ?_))) | (refine gBt (fun hc => ?_) (fun hc => ?_); (focus (refine kMove ?_))))
          all_goals (refine ow_cons ?_; first | (refine gTt ?_; refine kLen ?_) | refine gFt ?_ | refine gNo ?_ | refine gUn ?_ | (refine gYes ?_; refine kLen ?_) | (refine gSt (fun hc => ?_) (fun hc => ?_); (focus (refine kLen ?_))) | (refine gBt (fun hc => ?_) (fun hc => ?_); (focus (refine kLen ?_))))
          all_goals (refine ow_cons ?_; first | (refine gTt ?_; refine kGtr ?_) | refine gFt ?_ | refine gNo ?_ | refine gUn ?_ | (refine gYes ?_; refine kGtr ?_) | (refine gSt (fun hc => ?_) (fun hc => ?_); (focus (refine kGtr ?_))) | (refine gBt (fun hc => ?_) (fun hc => ?_); (focus (refine kGtr ?_))))
          all_goals refine wPick ?_
          all_goals refine ow_nil ?_)
      | (
          refine cw_draw (id := 23) 26 (by kernel_rfl) (by kernel_rfl) rfl ?_
          all_goals refine hField ?_
          all_goals refine hLoad ?_
          all_goals refine hMove ?_
          all_goals refine hIndex ?_
          all_goals refine hField ?_
          all_goals refine hLoad ?_
          all_goals refine hConv ?_
          all_goals refine hMove ?_
          all_goals refine hLen ?_
          all_goals refine hConv ?_
          all_goals refine hRem ?_
          all_goals refine hConv ?_
          all_goals refine hField ?_
          all_goals refine hLoad ?_
          all_goals refine hMove ?_
          all_goals refine hIndex ?_
          all_goals refine hField ?_
          all_goals refine hLoad ?_
          all_goals refine hConv ?_
          all_goals refine hMove ?_
          all_goals refine hLen ?_
          all_goals refine hConv ?_
          all_goals refine hRem ?_
          all_goals refine hConv ?_
          all_goals refine hAssign ?_
          all_goals refine hAssign ?_
          all_goals refine hw_nil ?_
          all_goals refine ow_nil ?_)
      | (
          refine cw_region (id := 22) rfl ?_
          all_goals refine wMove ?_
          all_goals refine wAdd ?_
          all_goals refine wAssign ?_
          all_goals refine ow_nil ?_)
      | (
          refine cw_region (id := 26) rfl ?_
          all_goals refine wMove ?_
          all_goals refine wNeq ?_
          all_goals refine ow_nil ?_)
      | (
          refine cw_region (id := 27) rfl ?_
          all_goals refine wAssign ?_
          all_goals refine ow_nil ?_)
      | (
          refine cw_region (id := 29) rfl ?_
          all_goals refine wEql ?_
          all_goals refine wAssign ?_
          all_goals refine ow_nil ?_)
      | (
          refine cw_region (id := 31) rfl ?_
          all_goals refine wMove ?_
          all_goals refine wNeq ?_
          all_goals refine ow_nil ?_)
      | (
          refine cw_region (id := 32) rfl ?_
          all_goals refine wAssign ?_
          all_goals refine ow_nil ?_)
      | (
          refine cw_region (id := 33) rfl ?_
          all_goals refine wMove ?_
          all_goals refine wAssign ?_
          all_goals refine ow_nil ?_)
      | (
          refine cw_region (id := 14) rfl ?_
          all_goals refine wField ?_
          all_goals refine wLoad ?_
          all_goals refine wConv ?_
          all_goals refine wRem ?_
          all_goals refine wConv ?_
          all_goals refine wAdd ?_
          all_goals refine wAssign ?_
          all_goals refine ow_nil ?_)
      | (
          refine cw_region (id := 16) rfl ?_
          all_goals refine wAssign ?_
          all_goals refine ow_nil ?_)
      | (
          refine cw_region (id := 34) rfl ?_
          all_goals refine wAssign ?_
          all_goals refine ow_nil ?_)
      | (
          refine cw_region (id := 35) rfl ?_
          all_goals refine wMove ?_
          all_goals refine wMove ?_
          all_goals refine wLen ?_
          all_goals refine wLss ?_
          all_goals refine ow_nil ?_)
      | (
          refine cw_region (id := 37) rfl ?_
          all_goals refine wMove ?_
          all_goals refine wMove ?_
          all_goals (refine ow_cons ?_; first | refine kIndex ?_ | (refine kIdxR (fun g hg => ?_); subst hg) | (refine kIdxO (fun gb go hg => ?_); subst hg))
          all_goals refine wLoad ?_
          all_goals refine wLss ?_
          all_goals refine wMove ?_
          all_goals (refine ow_cons ?_; first | (refine gTf ?_; refine kMove ?_) | refine gFf ?_ | refine gNo ?_ | refine gUn ?_ | (refine gYes ?_; refine kMove ?_) | (refine gSf (fun hc => ?_) (fun hc => ?_); rotate_left; (focus (refine kMove ?_)); rotate_right) | (refine gBf (fun hc => ?_) (fun hc => ?_); rotate_left; (focus (refine kMove ?_)); rotate_right))
          all_goals (refine ow_cons ?_; first | (refine gTf ?_; refine kMove ?_) | refine gFf ?_ | refine gNo ?_ | refine gUn ?_ | (refine gYes ?_; refine kMove ?_) | (refine gSf (fun hc => ?_) (fun hc => ?_); rotate_left; (focus (refine kMove ?_)); rotate_right) | (refine gBf (fun hc => ?_) (fun hc => ?_); rotate_left; (focus (refine kMove ?_)); rotate_right))
          all_goals (refine ow_cons ?_; first | (refine gTf ?_; first | refine kIndex ?_ | (refine kIdxR (fun g hg => ?_); subst hg) | (refine kIdxO (fun gb go hg => ?_); subst hg)) | refine gFf ?_ | refine gNo ?_ | refine gUn ?_ | (refine gYes ?_; first | refine kIndex ?_ | (refine kIdxR (fun g hg => ?_); subst hg) | (refine kIdxO (fun gb go hg => ?_); subst hg)) | (refine gSf (fun hc => ?_) (fun hc => ?_); rotate_left; (focus (first | refine kIndex ?_ | (refine kIdxR (fun g hg => ?_); subst hg) | (refine kIdxO (fun gb go hg => ?_); subst hg))); rotate_right) | (refine gBf (fun hc => ?_) (fun hc => ?_); rotate_left; (focus (first | refine kIndex ?_ | (refine kIdxR (fun g hg => ?_); subst hg) | (refine kIdxO (fun gb go hg => ?_); subst hg))); rotate_right))
          all_goals (refine ow_cons ?_; first | (refine gTf ?_; refine kLoad ?_) | refine gFf ?_ | refine gNo ?_ | refine gUn ?_ | (refine gYes ?_; refine kLoad ?_) | (refine gSf (fun hc => ?_) (fun hc => ?_); rotate_left; (focus (refine kLoad ?_)); rotate_right) | (refine gBf (fun hc => ?_) (fun hc => ?_); rotate_left; (focus (refine kLoad ?_)); rotate_right))
          all_goals (refine ow_cons ?_; first | (refine gTf ?_; refine kMove ?_) | refine gFf ?_ | refine gNo ?_ | refine gUn ?_ | (refine gYes ?_; refine kMove ?_) | (refine gSf (fun hc => ?_) (fun hc => ?_); rotate_left; (focus (refine kMove ?_)); rotate_right) | (refine gBf (fun hc => ?_) (fun hc => ?_); rotate_left; (focus (refine kMove ?_)); rotate_right))
          all_goals (refine ow_cons ?_; first | (refine gTf ?_; refine kLen ?_) | refine gFf ?_ | refine gNo ?_ | refine gUn ?_ | (refine gYes ?_; refine kLen ?_) | (refine gSf (fun hc => ?_) (fun hc => ?_); rotate_left; (focus (refine kLen ?_)); rotate_right) | (refine gBf (fun hc => ?_) (fun hc => ?_); rotate_left; (focus (refine kLen ?_)); rotate_right))
          all_goals (refine ow_cons ?_; first | (refine gTf ?_; refine kGeq ?_) | refine gFf ?_ | refine gNo ?_ | refine gUn ?_ | (refine gYes ?_; refine kGeq ?_) | (refine gSf (fun hc => ?_) (fun hc => ?_); rotate_left; (focus (refine kGeq ?_)); rotate_right) | (refine gBf (fun hc => ?_) (fun hc => ?_); rotate_left; (focus (refine kGeq ?_)); rotate_right))
          all_goals refine wPick ?_
          all_goals refine wMove ?_
          all_goals (refine ow_cons ?_; first | (refine gTf ?_; refine kMove ?_) | refine gFf ?_ | refine gNo ?_ | refine gUn ?_ | (refine gYes ?_; refine kMove ?_) | (refine gSf (fun hc => ?_) (fun hc => ?_); rotate_left; (focus (refine kMove ?_)); rotate_right) | (refine gBf (fun hc => ?_) (fun hc => ?_); rotate_left; (focus (refine kMove ?_)); rotate_right))
          all_goals (refine ow_cons ?_; first | (refine gTf ?_; refine kMove ?_) | refine gFf ?_ | refine gNo ?_ | refine gUn ?_ | (refine gYes ?_; refine kMove ?_) | (refine gSf (fun hc => ?_) (fun hc => ?_); rotate_left; (focus (refine kMove ?_)); rotate_right) | (refine gBf (fun hc => ?_) (fun hc => ?_); rotate_left; (focus (refine kMove ?_)); rotate_right))
          all_goals (refine ow_cons ?_; first | (refine gTf ?_; refine kMove ?_) | refine gFf ?_ | refine gNo ?_ | refine gUn ?_ | (refine gYes ?_; refine kMove ?_) | (refine gSf (fun hc => ?_) (fun hc => ?_); rotate_left; (focus (refine kMove ?_)); rotate_right) | (refine gBf (fun hc => ?_) (fun hc => ?_); rotate_left; (focus (refine kMove ?_)); rotate_right))
          all_goals (refine ow_cons ?_; first | (refine gTf ?_; first | refine kIndex ?_ | (refine kIdxR (fun g hg => ?_); subst hg) | (refine kIdxO (fun gb go hg => ?_); subst hg)) | refine gFf ?_ | refine gNo ?_ | refine gUn ?_ | (refine gYes ?_; first | refine kIndex ?_ | (refine kIdxR (fun g hg => ?_); subst hg) | (refine kIdxO (fun gb go hg => ?_); subst hg)) | (refine gSf (fun hc => ?_) (fun hc => ?_); rotate_left; (focus (first | refine kIndex ?_ | (refine kIdxR (fun g hg => ?_); subst hg) | (refine kIdxO (fun gb go hg => ?_); subst hg))); rotate_right) | (refine gBf (fun hc => ?_) (fun hc => ?_); rotate_left; (focus (first | refine kIndex ?_ | (refine kIdxR (fun g hg => ?_); subst hg) | (refine kIdxO (fun gb go hg => ?_); subst hg))); rotate_right))
          all_goals (refine ow_cons ?_; first | (refine gTf ?_; refine kLoad ?_) | refine gFf ?_ | refine gNo ?_ | refine gUn ?_ | (refine gYes ?_; refine kLoad ?_) | (refine gSf (fun hc => ?_) (fun hc => ?_); rotate_left; (focus (refine kLoad ?_)); rotate_right) | (refine gBf (fun hc => ?_) (fun hc => ?_); rotate_left; (focus (refine kLoad ?_)); rotate_right))
          all_goals (refine ow_cons ?_; first | (refine gTf ?_; first | refine kIndex ?_ | (refine kIdxR (fun g hg => ?_); subst hg) | (refine kIdxO (fun gb go hg => ?_); subst hg)) | refine gFf ?_ | refine gNo ?_ | refine gUn ?_ | (refine gYes ?_; first | refine kIndex ?_ | (refine kIdxR (fun g hg => ?_); subst hg) | (refine kIdxO (fun gb go hg => ?_); subst hg)) | (refine gSf (fun hc => ?_) (fun hc => ?_); rotate_left; (focus (first | refine kIndex ?_ | (refine kIdxR (fun g hg => ?_); subst hg) | (refine kIdxO (fun gb go hg => ?_); subst hg))); rotate_right) | (refine gBf (fun hc => ?_) (fun hc => ?_); rotate_left; (focus (first | refine kIndex ?_ | (refine kIdxR (fun g hg => ?_); subst hg) | (refine kIdxO (fun gb go hg => ?_); subst hg))); rotate_right))
          all_goals (refine ow_cons ?_; first | (refine gTf ?_; refine kLoad ?_) | refine gFf ?_ | refine gNo ?_ | refine gUn ?_ | (refine gYes ?_; refine kLoad ?_) | (refine gSf (fun hc => ?_) (fun hc => ?_); rotate_left; (focus (refine kLoad ?_)); rotate_right) | (refine gBf (fun hc => ?_) (fun hc => ?_); rotate_left; (focus (refine kLoad ?_)); rotate_right))
          all_goals refine wPick ?_
          all_goals refine ow_nil ?_)
      | (
          refine cw_region (id := 38) rfl ?_
          all_goals refine wAssign ?_
          all_goals refine ow_nil ?_)
      | (
          refine cw_region (id := 39) rfl ?_
          all_goals refine wMove ?_
          all_goals refine wMove ?_
          all_goals refine wMove ?_
          all_goals (refine ow_cons ?_; first | refine kIndex ?_ | (refine kIdxR (fun g hg => ?_); subst hg) | (refine kIdxO (fun gb go hg => ?_); subst hg))
          all_goals refine wLoad ?_
          all_goals (refine ow_cons ?_; first | refine kIndex ?_ | (refine kIdxR (fun g hg => ?_); subst hg) | (refine kIdxO (fun gb go hg => ?_); subst hg))
          all_goals (refine ow_cons ?_; first | refine kStore ?_ | refine kStoreA ?_ | refine kStoreR ?_)
          all_goals refine ow_nil ?_)
      | (
          refine cw_region (id := 36) rfl ?_
          all_goals refine wMove ?_
          all_goals refine wAdd ?_
          all_goals refine wAssign ?_
          all_goals refine ow_nil ?_)
      | (
          refine cw_region (id := 40) rfl ?_
          all_goals refine wAssign ?_
          all_goals refine ow_nil ?_)
      | (
          refine cw_region (id := 41) rfl ?_
          all_goals refine wAssign ?_
          all_goals refine ow_nil ?_)
      | (
          refine cw_region (id := 42) rfl ?_
          all_goals refine wMove ?_
          all_goals refine wMove ?_
          all_goals refine wLen ?_
          all_goals refine wLss ?_
          all_goals refine ow_nil ?_)
      | (
          refine cw_region (id := 44) rfl ?_
          all_goals refine wMove ?_
          all_goals refine wMove ?_
          all_goals (refine ow_cons ?_; first | refine kIndex ?_ | (refine kIdxR (fun g hg => ?_); subst hg) | (refine kIdxO (fun gb go hg => ?_); subst hg))
          all_goals refine wLoad ?_
          all_goals refine wNot ?_
          all_goals refine ow_nil ?_)
      | (
          refine cw_region (id := 45) rfl ?_
          all_goals refine wMove ?_
          all_goals refine wMove ?_
          all_goals refine wMove ?_
          all_goals (refine ow_cons ?_; first | refine kIndex ?_ | (refine kIdxR (fun g hg => ?_); subst hg) | (refine kIdxO (fun gb go hg => ?_); subst hg))
          all_goals refine wLoad ?_
          all_goals refine wAdd ?_
          all_goals refine wAssign ?_
          all_goals refine ow_nil ?_)
      | (
          refine cw_region (id := 43) rfl ?_
          all_goals refine wMove ?_
          all_goals refine wAdd ?_
          all_goals refine wAssign ?_
          all_goals refine ow_nil ?_)
      | (
          refine cw_region (id := 47) rfl ?_
          all_goals refine wAssign ?_
          all_goals refine ow_nil ?_)
      | (
          refine cw_region (id := 9) rfl ?_
          all_goals refine wMove ?_
          all_goals refine wAdd ?_
          all_goals refine wAssign ?_
          all_goals refine ow_nil ?_)
      | (
          refine cw_region (id := 48) rfl ?_
          all_goals refine wAssign ?_
          all_goals refine ow_nil ?_)
      | refine cw_seq ?_
      | refine tq_n ?_
      | (refine isCW ?_; first | refine cw_region rfl ?_ | refine cw_skip ?_ | refine cw_ret ?_ | refine cw_exit ?_ | refine cw_block ?_ | refine cT ?_ | refine cF ?_ | refine cTrue ?_ | refine cFalse ?_ | refine cS (fun hc => ?_) (fun hc => ?_) | refine cB (fun hc => ?_) (fun hc => ?_))
      | refine tq_ret ?_ | refine tq_exit ?_ | refine bq_n ?_ | refine bq_ret ?_ | refine bq_same ?_ | refine bq_ne rfl ?_
      | refine ow_cons ?_ | refine ow_nil ?_
      | (refine isOpK ?_; first
        | (refine isG ?_; first | refine opk_yes rfl rfl ?_ | refine opk_no rfl rfl ?_ | refine opk_no_undef rfl rfl ?_ | refine opk_g_t rfl rfl (by omega) ?_ | refine opk_g_f rfl rfl (by omega) ?_ | refine opk_g_s rfl rfl (fun hc => ?_) (fun hc => ?_) | refine opk_g_b rfl rfl (fun hc => ?_) (fun hc => ?_))
        | refine kRd ?_
        | refine kStore ?_
        | refine kStoreA ?_
        | refine kStoreR ?_
        | (refine kIdxR (fun g hg => ?_); subst hg)
        | (refine kIdxO (fun gb go hg => ?_); subst hg)
        | refine st_alloc (fun bN => ?_)
        | refine kBox (fun bN => ?_)
        | refine kBoxA (fun bN => ?_)
        | (refine st_buildSlice rfl rfl rfl rfl (fun bN => ?_))
        | (refine st_clearR rfl selA rfl (by omega) rfl rfl rfl ?_)
        | (refine st_clearR rfl selA (by omega) (by omega) rfl rfl rfl ?_))
      | refine hw_cons ?_ | refine hw_nil ?_
      | (refine isOpS ?_; first
        | (refine os_isG ?_; first | refine os_yes rfl rfl ?_ | refine os_no rfl rfl ?_ | refine os_no_undef rfl rfl ?_ | refine os_g_t rfl rfl (by omega) ?_ | refine os_g_f rfl rfl (by omega) ?_ | refine os_g_s rfl rfl (fun hc => ?_) (fun hc => ?_) | refine os_g_b rfl rfl (fun hc => ?_) (fun hc => ?_))
        | refine sRd ?_))
    refine cw_region (id := 13) rfl ?_
    refine wField ?_
    refine wLoad ?_
    refine ow_nil ?_
    refine tq_n ?_
    refine cw_norm (S := fun g : St × Option Nat × Nat × List (Int × Bool) × Option Nat × Nat × Option Nat × Nat × Option Nat × Nat × List Int => [(0, .slice (some ⟨gb, go, none⟩) evs.length cap), (2, .bool false), (3, ptr b), (4, .slice (oad g.2.2.2.2.1) (g.2.2.2.1.map (·.1)).length g.2.2.2.2.2.1), (5, .slice (oad g.2.2.2.2.2.2.1) (g.2.2.2.1.map (·.2)).length g.2.2.2.2.2.2.2.1), (6, i6 now2), (7, .int .i64 (i : Nat)), (9, .slice (oad g.2.2.2.2.2.2.2.2.1) g.2.2.2.2.2.2.2.2.2.2.length g.2.2.2.2.2.2.2.2.2.1)])
      (H := fun g => stR b g.1 g.2.1 g.2.2.1 ++ ([row g.2.2.2.2.1 3 g.2.2.2.2.2.1 (tInt .i64) (g.2.2.2.1.map (·.1)), row g.2.2.2.2.2.2.1 4 g.2.2.2.2.2.2.2.1 tBool (g.2.2.2.1.map (·.2)), row g.2.2.2.2.2.2.2.2.1 3 g.2.2.2.2.2.2.2.2.2.1 (tInt .i64) g.2.2.2.2.2.2.2.2.2.2] ++ evsH (some ⟨gb, go, none⟩) evs))
      (V := fun g => g.2.2.2.1.length ≤ i + 1 ∧ MidI g.1 g.2.2.2.1 g.2.2.2.2.2.2.2.2.2.2 now2) ?_ ?_
    · refine cw_env [(0, .slice (some ⟨gb, go, none⟩) evs.length cap), (2, .bool false), (3, ptr b), (4, .slice (oad az) (l.map (·.1)).length cz), (5, .slice (oad at_) (l.map (·.2)).length ct), (6, i6 now2), (7, .int .i64 (i : Nat)), (8, ptr bN), (9, .slice none 0 0), (50, i6 what)] ⟨rfl, rfl, rfl, rfl, rfl, congrArg i6 hn2, rfl, rfl, rfl, rfl, trivial⟩ fun e' => ?_
      dsimp only [upds]
      clear hn2 hI hnb
      have hnb := hI2.nowb
      have htop := hI2.top
      have hlen := hI2.ok.len
      have hb1 : ((l.map (·.1)).length + 1) * 8 ≤ 140737488355328 := by omega
      have hb2 : ((l.map (·.2)).length + 1) * 1 ≤ 140737488355328 := by omega
      have hN : 1 ≤ 1 + size % 18446744073709551616 % 2000 ∧ 1 + size % 18446744073709551616 % 2000 ≤ 2000 := by omega
      have hl1000 : l.length ≤ 1000 := by omega
      obtain ⟨sf_, nf, yf, hff⟩ := fire_fine (s := s) (t := now2) ⟨hnb.1, hnb.2.2⟩
      have hft := fire_tells hI2.ok hff
      have hfo := fire_ok hI2.ok now2
      rw [hff] at hfo
      have hsent := onceSent b a c hI2 hN hl1000 (l.map (·.1)).length hf1
      have hfire := fireAs b a c s sf_ now2 nf yf hI2.ok hff
      repeat' (first
        | (
            refine cw_region (id := 0) rfl ?_
            all_goals refine wAssign ?_
            all_goals refine ow_nil ?_)
        | (
            refine cw_region (id := 2) rfl ?_
            all_goals refine wAssign ?_
            all_goals refine ow_nil ?_)
        | (
            refine cw_region (id := 4) rfl ?_
            all_goals refine wAssign ?_
            all_goals refine ow_nil ?_)
        | (
            refine cw_region (id := 5) rfl ?_
            all_goals refine wAssign ?_
            all_goals refine ow_nil ?_)
        | (
            refine cw_region (id := 6) rfl ?_
            all_goals refine wAssign ?_
            all_goals refine ow_nil ?_)
        | (
            refine cw_region (id := 7) rfl ?_
            all_goals refine wAssign ?_
            all_goals refine ow_nil ?_)
        | (
            refine cw_region (id := 8) rfl ?_
            all_goals refine wMove ?_
            all_goals refine wMove ?_
            all_goals refine wLen ?_
            all_goals refine wLss ?_
            all_goals refine wMove ?_
            all_goals (refine ow_cons ?_; first | (refine gTt ?_; refine kMove ?_) | refine gFt ?_ | refine gNo ?_ | refine gUn ?_ | (refine gYes ?_; refine kMove ?_) | (refine gSt (fun hc => ?_) (fun hc => ?_); (focus (refine kMove ?_))) | (refine gBt (fun hc => ?_) (fun hc => ?_); (focus (refine kMove ?_))))
            all_goals (refine ow_cons ?_; first | (refine gTt ?_; refine kLss ?_) | refine gFt ?_ | refine gNo ?_ | refine gUn ?_ | (refine gYes ?_; refine kLss ?_) | (refine gSt (fun hc => ?_) (fun hc => ?_); (focus (refine kLss ?_))) | (refine gBt (fun hc => ?_) (fun hc => ?_); (focus (refine kLss ?_))))
            all_goals refine wPick ?_
            all_goals refine ow_nil ?_)
        | (
            refine cw_region (id := 10) rfl ?_
            all_goals refine wMove ?_
            all_goals refine wMove ?_
            all_goals (refine ow_cons ?_; first | refine kIndex ?_ | (refine kIdxR (fun g hg => ?_); subst hg) | (refine kIdxO (fun gb go hg => ?_); subst hg))
            all_goals refine wLoad ?_
            all_goals (refine ow_cons ?_; refine st_alloc (fun bN => ?_))
            all_goals (refine ow_cons ?_; first | refine kStore ?_ | refine kStoreA ?_ | refine kStoreR ?_)
            all_goals refine ow_nil ?_)
        | (
            refine cw_region (id := 11) rfl ?_
            all_goals refine wMove ?_
            all_goals refine wField ?_
            all_goals refine wLoad ?_
            all_goals refine wConv ?_
            all_goals refine wRem ?_
            all_goals refine wConv ?_
            all_goals refine wAdd ?_
            all_goals refine wMin ?_
            all_goals refine wAssign ?_
            all_goals refine ow_nil ?_)
        | (
            refine cw_region (id := 12) rfl ?_
            all_goals refine wAssign ?_
            all_goals refine ow_nil ?_)
        | (
            refine cw_region (id := 13) rfl ?_
            all_goals refine wField ?_
            all_goals refine wLoad ?_
            all_goals refine ow_nil ?_)
        | (
            refine cw_region (id := 18) rfl ?_
            all_goals refine wEql ?_
            all_goals refine wAssign ?_
            all_goals refine ow_nil ?_)
        | (
            refine cw_region (id := 19) rfl ?_
            all_goals refine wAssign ?_
            all_goals refine ow_nil ?_)
        | (
            refine cw_region (id := 20) rfl ?_
            all_goals refine wAssign ?_
            all_goals refine ow_nil ?_)
        | (
            refine cw_region (id := 21) rfl ?_
            all_goals refine wMove ?_
            all_goals refine wField ?_
            all_goals refine wLoad ?_
            all_goals refine wLen ?_
            all_goals refine wLss ?_
            all_goals refine wMove ?_
            all_goals (refine ow_cons ?_; first | (refine gTt ?_; refine kMove ?_) | refine gFt ?_ | refine gNo ?_ | refine gUn ?_ | (refine gYes ?_; refine kMove ?_) | (refine gSt (fun hc => ?_) (fun hc => ?_); (focus (refine kMove ?_))) | (refine gBt (fun hc => ?_) (fun hc => ?_); (focus (refine kMove ?_))))
            all_goals (refine ow_cons ?_; first | (refine gTt ?_; refine kLss ?_) | refine gFt ?_ | refine gNo ?_ | refine gUn ?_ | (refine gYes ?_; refine kLss ?_) | (refine gSt (fun hc => ?_) (fun hc => ?_); (focus (refine kLss ?_))) | (refine gBt (fun hc => ?_) (fun hc => ?_); (focus (refine kLss ?_))))
            all_goals refine wPick ?_
            all_goals refine wMove ?_
            all_goals (refine ow_cons ?_; first | (refine gTt ?_; refine kMove ?_) | refine gFt ?_ | refine gNo ?_ | refine gUn ?_ | (refine gYes ?_; refine kMove ?_) | (refine gSt (fun hc => ?_) (fun hc => ?_); (focus (refine kMove ?_))) | (refine gBt (fun hc => ?_) (fun hc => ?_); (focus (refine kMove ?_))))
            all_goals (refine ow_cons ?_; first | (refine gTt ?_; refine kLen ?_) | refine gFt ?_ | refine gNo ?_ | refine gUn ?_ | (refine gYes ?_; refine kLen ?_) | (refine gSt (fun hc => ?_) (fun hc => ?_); (focus (refine kLen ?_))) | (refine gBt (fun hc => ?_) (fun hc => ?_); (focus (refine kLen ?_))))
            all_goals (refine ow_cons ?_; first | (refine gTt ?_; refine kGtr ?_) | refine gFt ?_ | refine gNo ?_ | refine gUn ?_ | (refine gYes ?_; refine kGtr ?_) | (refine gSt (fun hc => ?_) (fun hc => ?_); (focus (refine kGtr ?_))) | (refine gBt (fun hc => ?_) (fun hc => ?_); (focus (refine kGtr ?_))))
            all_goals refine wPick ?_
            all_goals refine ow_nil ?_)
        | (
            refine cw_draw (id := 23) 26 (by kernel_rfl) (by kernel_rfl) rfl ?_
            all_goals refine hField ?_
            all_goals refine hLoad ?_
            all_goals refine hMove ?_
            all_goals refine hIndex ?_
            all_goals refine hField ?_
            all_goals refine hLoad ?_
            all_goals refine hConv ?_
            all_goals refine hMove ?_
            all_goals refine hLen ?_
            all_goals refine hConv ?_
            all_goals refine hRem ?_
            all_goals refine hConv ?_
            all_goals refine hField ?_
            all_goals refine hLoad ?_
            all_goals refine hMove ?_
            all_goals refine hIndex ?_
            all_goals refine hField ?_
            all_goals refine hLoad ?_
            all_goals refine hConv ?_
            all_goals refine hMove ?_
            all_goals refine hLen ?_
            all_goals refine hConv ?_
            all_goals refine hRem ?_
            all_goals refine hConv ?_
            all_goals refine hAssign ?_
            all_goals refine hAssign ?_
            all_goals refine hw_nil ?_
            all_goals refine ow_nil ?_)
        | (
            refine cw_region (id := 24) rfl ?_
            all_goals refine wMove ?_
            all_goals refine wMove ?_
            all_goals refine wMove ?_
            all_goals refine wMin ?_
            all_goals refine wMove ?_
            all_goals refine wMove ?_
            all_goals refine wMax ?_
            all_goals (refine ow_cons ?_; refine st_rd (rd_build (vs := [.int _ _, .int _ _]) rfl) ?_)
            all_goals (refine ow_cons ?_; refine st_buildSlice (vs := [.int _ _, .int _ _]) rfl rfl rfl rfl (fun bN => ?_))
            all_goals (refine ow_cons ?_; first | (refine st_append1 (τ := tInt .i64) (xs := l.map (·.1)) (1 + size % 18446744073709551616 % 2000) rfl rfl selA selA rfl rfl rfl hb1 (fun a' cap' => ?_)) | (refine st_append1 (τ := tBool) (xs := l.map (·.2)) false rfl rfl selA selA rfl rfl rfl hb2 (fun a' cap' => ?_)))
            all_goals refine wAssign ?_
            all_goals refine ow_nil ?_)
        | (
            refine cw_region (id := 22) rfl ?_
            all_goals refine wMove ?_
            all_goals refine wAdd ?_
            all_goals refine wAssign ?_
            all_goals refine ow_nil ?_)
        | (
            refine cw_region (id := 26) rfl ?_
            all_goals refine wMove ?_
            all_goals refine wNeq ?_
            all_goals refine ow_nil ?_)
        | (
            refine cw_region (id := 27) rfl ?_
            all_goals refine wAssign ?_
            all_goals refine ow_nil ?_)
        | (
            refine cw_region (id := 28) rfl ?_
            all_goals refine wMove ?_
            all_goals refine wMove ?_
            all_goals (refine ow_cons ?_; first | (refine st_append1 (τ := tInt .i64) (xs := l.map (·.1)) (1 + size % 18446744073709551616 % 2000) rfl rfl selA selA rfl rfl rfl hb1 (fun a' cap' => ?_)) | (refine st_append1 (τ := tBool) (xs := l.map (·.2)) false rfl rfl selA selA rfl rfl rfl hb2 (fun a' cap' => ?_)))
            all_goals refine wMove ?_
            all_goals (refine ow_cons ?_; first | (refine st_append1 (τ := tInt .i64) (xs := l.map (·.1)) (1 + size % 18446744073709551616 % 2000) rfl rfl selA selA rfl rfl rfl hb1 (fun a' cap' => ?_)) | (refine st_append1 (τ := tBool) (xs := l.map (·.2)) false rfl rfl selA selA rfl rfl rfl hb2 (fun a' cap' => ?_)))
            all_goals refine wAssign ?_
            all_goals refine ow_nil ?_)
        | (
            refine cw_region (id := 29) rfl ?_
            all_goals refine wEql ?_
            all_goals refine wAssign ?_
            all_goals refine ow_nil ?_)
        | (
            refine cw_region (id := 30) rfl ?_
            all_goals refine wMove ?_
            all_goals refine wMove ?_
            all_goals (refine ow_cons ?_; (refine st_call (av := [_, _]) rfl hfire (.cons selA (.cons selA (.nil _))) ?_; rintro v L' ⟨a3, c3, rfl, rfl⟩))
            all_goals refine wMove ?_
            all_goals refine wExtract ?_
            all_goals refine wExtract ?_
            all_goals refine wExtract ?_
            all_goals refine wAssign ?_
            all_goals refine wAssign ?_
            all_goals refine wAssign ?_
            all_goals refine ow_nil ?_)
        | (
            refine cw_region (id := 31) rfl ?_
            all_goals refine wMove ?_
            all_goals refine wNeq ?_
            all_goals refine ow_nil ?_)
        | (
            refine cw_region (id := 32) rfl ?_
            all_goals refine wAssign ?_
            all_goals refine ow_nil ?_)
        | (
            refine cw_region (id := 33) rfl ?_
            all_goals refine wMove ?_
            all_goals refine wAssign ?_
            all_goals refine ow_nil ?_)
        | (
            refine cw_region (id := 14) rfl ?_
            all_goals refine wField ?_
            all_goals refine wLoad ?_
            all_goals refine wConv ?_
            all_goals refine wRem ?_
            all_goals refine wConv ?_
            all_goals refine wAdd ?_
            all_goals refine wAssign ?_
            all_goals refine ow_nil ?_)
        | (
            refine cw_region (id := 15) rfl ?_
            all_goals refine wMove ?_
            all_goals refine wMove ?_
            all_goals refine wLen ?_
            all_goals refine wMove ?_
            all_goals refine wMove ?_
            all_goals (refine ow_cons ?_; (refine st_call (av := [_, _, _, _, _]) rfl hsent (.cons selA (.cons selA (.nil _))) ?_; rintro v L' ⟨a3, c3, rfl, rfl⟩))
            all_goals refine wNeq ?_
            all_goals refine ow_nil ?_)
        | (
            refine cw_region (id := 16) rfl ?_
            all_goals refine wAssign ?_
            all_goals refine ow_nil ?_)
        | (
            refine cw_region (id := 17) rfl ?_
            all_goals refine wMove ?_
            all_goals refine wMove ?_
            all_goals (refine ow_cons ?_; refine st_buildSlice (vs := [.int _ _]) rfl rfl rfl rfl (fun bN => ?_))
            all_goals (refine ow_cons ?_; first | (refine st_append1 (τ := tInt .i64) (xs := l.map (·.1)) (1 + size % 18446744073709551616 % 2000) rfl rfl selA selA rfl rfl rfl hb1 (fun a' cap' => ?_)) | (refine st_append1 (τ := tBool) (xs := l.map (·.2)) false rfl rfl selA selA rfl rfl rfl hb2 (fun a' cap' => ?_)))
            all_goals refine wMove ?_
            all_goals (refine ow_cons ?_; refine st_buildSlice (vs := [.bool _]) rfl rfl rfl rfl (fun bN => ?_))
            all_goals (refine ow_cons ?_; first | (refine st_append1 (τ := tInt .i64) (xs := l.map (·.1)) (1 + size % 18446744073709551616 % 2000) rfl rfl selA selA rfl rfl rfl hb1 (fun a' cap' => ?_)) | (refine st_append1 (τ := tBool) (xs := l.map (·.2)) false rfl rfl selA selA rfl rfl rfl hb2 (fun a' cap' => ?_)))
            all_goals refine wAssign ?_
            all_goals refine wAssign ?_
            all_goals refine ow_nil ?_)
        | (
            refine cw_region (id := 34) rfl ?_
            all_goals refine wAssign ?_
            all_goals refine ow_nil ?_)
        | (
            refine cw_region (id := 35) rfl ?_
            all_goals refine wMove ?_
            all_goals refine wMove ?_
            all_goals refine wLen ?_
            all_goals refine wLss ?_
            all_goals refine ow_nil ?_)
        | (
            refine cw_region (id := 37) rfl ?_
            all_goals refine wMove ?_
            all_goals refine wMove ?_
            all_goals (refine ow_cons ?_; first | refine kIndex ?_ | (refine kIdxR (fun g hg => ?_); subst hg) | (refine kIdxO (fun gb go hg => ?_); subst hg))
            all_goals refine wLoad ?_
            all_goals refine wLss ?_
            all_goals refine wMove ?_
            all_goals (refine ow_cons ?_; first | (refine gTf ?_; refine kMove ?_) | refine gFf ?_ | refine gNo ?_ | refine gUn ?_ | (refine gYes ?_; refine kMove ?_) | (refine gSf (fun hc => ?_) (fun hc => ?_); rotate_left; (focus (refine kMove ?_)); rotate_right) | (refine gBf (fun hc => ?_) (fun hc => ?_); rotate_left; (focus (refine kMove ?_)); rotate_right))
            all_goals (refine ow_cons ?_; first | (refine gTf ?_; refine kMove ?_) | refine gFf ?_ | refine gNo ?_ | refine gUn ?_ | (refine gYes ?_; refine kMove ?_) | (refine gSf (fun hc => ?_) (fun hc => ?_); rotate_left; (focus (refine kMove ?_)); rotate_right) | (refine gBf (fun hc => ?_) (fun hc => ?_); rotate_left; (focus (refine kMove ?_)); rotate_right))
            all_goals (refine ow_cons ?_; first | (refine gTf ?_; first | refine kIndex ?_ | (refine kIdxR (fun g hg => ?_); subst hg) | (refine kIdxO (fun gb go hg => ?_); subst hg)) | refine gFf ?_ | refine gNo ?_ | refine gUn ?_ | (refine gYes ?_; first | refine kIndex ?_ | (refine kIdxR (fun g hg => ?_); subst hg) | (refine kIdxO (fun gb go hg => ?_); subst hg)) | (refine gSf (fun hc => ?_) (fun hc => ?_); rotate_left; (focus (first | refine kIndex ?_ | (refine kIdxR (fun g hg => ?_); subst hg) | (refine kIdxO (fun gb go hg => ?_); subst hg))); rotate_right) | (refine gBf (fun hc => ?_) (fun hc => ?_); rotate_left; (focus (first | refine kIndex ?_ | (refine kIdxR (fun g hg => ?_); subst hg) | (refine kIdxO (fun gb go hg => ?_); subst hg))); rotate_right))
            all_goals (refine ow_cons ?_; first | (refine gTf ?_; refine kLoad ?_) | refine gFf ?_ | refine gNo ?_ | refine gUn ?_ | (refine gYes ?_; refine kLoad ?_) | (refine gSf (fun hc => ?_) (fun hc => ?_); rotate_left; (focus (refine kLoad ?_)); rotate_right) | (refine gBf (fun hc => ?_) (fun hc => ?_); rotate_left; (focus (refine kLoad ?_)); rotate_right))
            all_goals (refine ow_cons ?_; first | (refine gTf ?_; refine kMove ?_) | refine gFf ?_ | refine gNo ?_ | refine gUn ?_ | (refine gYes ?_; refine kMove ?_) | (refine gSf (fun hc => ?_) (fun hc => ?_); rotate_left; (focus (refine kMove ?_)); rotate_right) | (refine gBf (fun hc => ?_) (fun hc => ?_); rotate_left; (focus (refine kMove ?_)); rotate_right))
            all_goals (refine ow_cons ?_; first | (refine gTf ?_; refine kLen ?_) | refine gFf ?_ | refine gNo ?_ | refine gUn ?_ | (refine gYes ?_; refine kLen ?_) | (refine gSf (fun hc => ?_) (fun hc => ?_); rotate_left; (focus (refine kLen ?_)); rotate_right) | (refine gBf (fun hc => ?_) (fun hc => ?_); rotate_left; (focus (refine kLen ?_)); rotate_right))
            all_goals (refine ow_cons ?_; first | (refine gTf ?_; refine kGeq ?_) | refine gFf ?_ | refine gNo ?_ | refine gUn ?_ | (refine gYes ?_; refine kGeq ?_) | (refine gSf (fun hc => ?_) (fun hc => ?_); rotate_left; (focus (refine kGeq ?_)); rotate_right) | (refine gBf (fun hc => ?_) (fun hc => ?_); rotate_left; (focus (refine kGeq ?_)); rotate_right))
            all_goals refine wPick ?_
            all_goals refine wMove ?_
            all_goals (refine ow_cons ?_; first | (refine gTf ?_; refine kMove ?_) | refine gFf ?_ | refine gNo ?_ | refine gUn ?_ | (refine gYes ?_; refine kMove ?_) | (refine gSf (fun hc => ?_) (fun hc => ?_); rotate_left; (focus (refine kMove ?_)); rotate_right) | (refine gBf (fun hc => ?_) (fun hc => ?_); rotate_left; (focus (refine kMove ?_)); rotate_right))
            all_goals (refine ow_cons ?_; first | (refine gTf ?_; refine kMove ?_) | refine gFf ?_ | refine gNo ?_ | refine gUn ?_ | (refine gYes ?_; refine kMove ?_) | (refine gSf (fun hc => ?_) (fun hc => ?_); rotate_left; (focus (refine kMove ?_)); rotate_right) | (refine gBf (fun hc => ?_) (fun hc => ?_); rotate_left; (focus (refine kMove ?_)); rotate_right))
            all_goals (refine ow_cons ?_; first | (refine gTf ?_; refine kMove ?_) | refine gFf ?_ | refine gNo ?_ | refine gUn ?_ | (refine gYes ?_; refine kMove ?_) | (refine gSf (fun hc => ?_) (fun hc => ?_); rotate_left; (focus (refine kMove ?_)); rotate_right) | (refine gBf (fun hc => ?_) (fun hc => ?_); rotate_left; (focus (refine kMove ?_)); rotate_right))
            all_goals (refine ow_cons ?_; first | (refine gTf ?_; first | refine kIndex ?_ | (refine kIdxR (fun g hg => ?_); subst hg) | (refine kIdxO (fun gb go hg => ?_); subst hg)) | refine gFf ?_ | refine gNo ?_ | refine gUn ?_ | (refine gYes ?_; first | refine kIndex ?_ | (refine kIdxR (fun g hg => ?_); subst hg) | (refine kIdxO (fun gb go hg => ?_); subst hg)) | (refine gSf (fun hc => ?_) (fun hc => ?_); rotate_left; (focus (first | refine kIndex ?_ | (refine kIdxR (fun g hg => ?_); subst hg) | (refine kIdxO (fun gb go hg => ?_); subst hg))); rotate_right) | (refine gBf (fun hc => ?_) (fun hc => ?_); rotate_left; (focus (first | refine kIndex ?_ | (refine kIdxR (fun g hg => ?_); subst hg) | (refine kIdxO (fun gb go hg => ?_); subst hg))); rotate_right))
            all_goals (refine ow_cons ?_; first | (refine gTf ?_; refine kLoad ?_) | refine gFf ?_ | refine gNo ?_ | refine gUn ?_ | (refine gYes ?_; refine kLoad ?_) | (refine gSf (fun hc => ?_) (fun hc => ?_); rotate_left; (focus (refine kLoad ?_)); rotate_right) | (refine gBf (fun hc => ?_) (fun hc => ?_); rotate_left; (focus (refine kLoad ?_)); rotate_right))
            all_goals (refine ow_cons ?_; first | (refine gTf ?_; first | refine kIndex ?_ | (refine kIdxR (fun g hg => ?_); subst hg) | (refine kIdxO (fun gb go hg => ?_); subst hg)) | refine gFf ?_ | refine gNo ?_ | refine gUn ?_ | (refine gYes ?_; first | refine kIndex ?_ | (refine kIdxR (fun g hg => ?_); subst hg) | (refine kIdxO (fun gb go hg => ?_); subst hg)) | (refine gSf (fun hc => ?_) (fun hc => ?_); rotate_left; (focus (first | refine kIndex ?_ | (refine kIdxR (fun g hg => ?_); subst hg) | (refine kIdxO (fun gb go hg => ?_); subst hg))); rotate_right) | (refine gBf (fun hc => ?_) (fun hc => ?_); rotate_left; (focus (first | refine kIndex ?_ | (refine kIdxR (fun g hg => ?_); subst hg) | (refine kIdxO (fun gb go hg => ?_); subst hg))); rotate_right))
            all_goals (refine ow_cons ?_; first | (refine gTf ?_; refine kLoad ?_) | refine gFf ?_ | refine gNo ?_ | refine gUn ?_ | (refine gYes ?_; refine kLoad ?_) | (refine gSf (fun hc => ?_) (fun hc => ?_); rotate_left; (focus (refine kLoad ?_)); rotate_right) | (refine gBf (fun hc => ?_) (fun hc => ?_); rotate_left; (focus (refine kLoad ?_)); rotate_right))
            all_goals refine wPick ?_
            all_goals refine ow_nil ?_)
        | (
            refine cw_region (id := 38) rfl ?_
            all_goals refine wAssign ?_
            all_goals refine ow_nil ?_)
        | (
            refine cw_region (id := 39) rfl ?_
            all_goals refine wMove ?_
            all_goals refine wMove ?_
            all_goals refine wMove ?_
            all_goals (refine ow_cons ?_; first | refine kIndex ?_ | (refine kIdxR (fun g hg => ?_); subst hg) | (refine kIdxO (fun gb go hg => ?_); subst hg))
            all_goals refine wLoad ?_
            all_goals (refine ow_cons ?_; first | refine kIndex ?_ | (refine kIdxR (fun g hg => ?_); subst hg) | (refine kIdxO (fun gb go hg => ?_); subst hg))
            all_goals (refine ow_cons ?_; first | refine kStore ?_ | refine kStoreA ?_ | refine kStoreR ?_)
            all_goals refine ow_nil ?_)
        | (
            refine cw_region (id := 36) rfl ?_
            all_goals refine wMove ?_
            all_goals refine wAdd ?_
            all_goals refine wAssign ?_
            all_goals refine ow_nil ?_)
        | (
            refine cw_region (id := 40) rfl ?_
            all_goals refine wAssign ?_
            all_goals refine ow_nil ?_)
        | (
            refine cw_region (id := 41) rfl ?_
            all_goals refine wAssign ?_
            all_goals refine ow_nil ?_)
        | (
            refine cw_region (id := 42) rfl ?_
            all_goals refine wMove ?_
            all_goals refine wMove ?_
            all_goals refine wLen ?_
            all_goals refine wLss ?_
            all_goals refine ow_nil ?_)
        | (
            refine cw_region (id := 44) rfl ?_
            all_goals refine wMove ?_
            all_goals refine wMove ?_
            all_goals (refine ow_cons ?_; first | refine kIndex ?_ | (refine kIdxR (fun g hg => ?_); subst hg) | (refine kIdxO (fun gb go hg => ?_); subst hg))
            all_goals refine wLoad ?_
            all_goals refine wNot ?_
            all_goals refine ow_nil ?_)
        | (
            refine cw_region (id := 45) rfl ?_
            all_goals refine wMove ?_
            all_goals refine wMove ?_
            all_goals refine wMove ?_
            all_goals (refine ow_cons ?_; first | refine kIndex ?_ | (refine kIdxR (fun g hg => ?_); subst hg) | (refine kIdxO (fun gb go hg => ?_); subst hg))
            all_goals refine wLoad ?_
            all_goals refine wAdd ?_
            all_goals refine wAssign ?_
            all_goals refine ow_nil ?_)
        | (
            refine cw_region (id := 43) rfl ?_
            all_goals refine wMove ?_
            all_goals refine wAdd ?_
            all_goals refine wAssign ?_
            all_goals refine ow_nil ?_)
        | (
            refine cw_region (id := 47) rfl ?_
            all_goals refine wAssign ?_
            all_goals refine ow_nil ?_)
        | (
            refine cw_region (id := 9) rfl ?_
            all_goals refine wMove ?_
            all_goals refine wAdd ?_
            all_goals refine wAssign ?_
            all_goals refine ow_nil ?_)
        | (
            refine cw_region (id := 48) rfl ?_
            all_goals refine wAssign ?_
            all_goals refine ow_nil ?_)
        | refine cw_seq ?_
        | refine tq_n ?_
        | (refine isCW ?_; first | refine cw_region rfl ?_ | refine cw_skip ?_ | refine cw_ret ?_ | refine cw_exit ?_ | refine cw_block ?_ | refine cT ?_ | refine cF ?_ | refine cTrue ?_ | refine cFalse ?_ | refine cS (fun hc => ?_) (fun hc => ?_) | refine cB (fun hc => ?_) (fun hc => ?_))
        | refine tq_ret ?_ | refine tq_exit ?_ | refine bq_n ?_ | refine bq_ret ?_ | refine bq_same ?_ | refine bq_ne rfl ?_
        | refine ow_cons ?_ | refine ow_nil ?_
        | (refine isOpK ?_; first
          | (refine isG ?_; first | refine opk_yes rfl rfl ?_ | refine opk_no rfl rfl ?_ | refine opk_no_undef rfl rfl ?_ | refine opk_g_t rfl rfl (by omega) ?_ | refine opk_g_f rfl rfl (by omega) ?_ | refine opk_g_s rfl rfl (fun hc => ?_) (fun hc => ?_) | refine opk_g_b rfl rfl (fun hc => ?_) (fun hc => ?_))
          | refine kRd ?_
          | refine kStore ?_
          | refine kStoreA ?_
          | refine kStoreR ?_
          | (refine kIdxR (fun g hg => ?_); subst hg)
          | (refine kIdxO (fun gb go hg => ?_); subst hg)
          | refine st_alloc (fun bN => ?_)
          | refine kBox (fun bN => ?_)
          | refine kBoxA (fun bN => ?_)
          | (refine st_buildSlice rfl rfl rfl rfl (fun bN => ?_))
          | (refine st_clearR rfl selA rfl (by omega) rfl rfl rfl ?_)
          | (refine st_clearR rfl selA (by omega) (by omega) rfl rfl rfl ?_)
          | (refine st_call (av := [_, _]) rfl hfire (.cons selA (.cons selA (.nil _))) ?_; rintro v L' ⟨a3, c3, rfl, rfl⟩)
          | (refine st_call (av := [_, _, _, _, _]) rfl hsent (.cons selA (.cons selA (.nil _))) ?_; rintro v L' ⟨a3, c3, rfl, rfl⟩)
          | (refine st_append1 (τ := tInt .i64) (xs := l.map (·.1)) (1 + size % 18446744073709551616 % 2000) rfl rfl selA selA rfl rfl rfl hb1 (fun a' cap' => ?_))
          | (refine st_append1 (τ := tBool) (xs := l.map (·.2)) false rfl rfl selA selA rfl rfl rfl hb2 (fun a' cap' => ?_)))
        | refine hw_cons ?_ | refine hw_nil ?_
        | (refine isOpS ?_; first
          | (refine os_isG ?_; first | refine os_yes rfl rfl ?_ | refine os_no rfl rfl ?_ | refine os_no_undef rfl rfl ?_ | refine os_g_t rfl rfl (by omega) ?_ | refine os_g_f rfl rfl (by omega) ?_ | refine os_g_s rfl rfl (fun hc => ?_) (fun hc => ?_) | refine os_g_b rfl rfl (fun hc => ?_) (fun hc => ?_))
          | refine sRd ?_))
      · refine cw_rounds (S := fun g : Nat × List Sp × Option Nat × Nat => [(0, .slice (some ⟨gb, go, none⟩) evs.length cap), (2, .bool false), (3, ptr b), (4, .slice (oad az) (l.map (·.1)).length cz), (5, .slice (oad at_) (l.map (·.2)).length ct), (6, i6 now2), (7, .int .i64 (i : Nat)), (8, ptr bN), (9, .slice none 0 0), (10, .slice (oad g.2.2.1) g.2.1.length g.2.2.2), (11, .int .i64 (g.1 : Nat))])
          (H := fun g => [blk b 63 (encS s a c), row a 66 c tPk s.waits, row az 3 cz (tInt .i64) (l.map (·.1)), row at_ 4 ct tBool (l.map (·.2)), blk bN 41 [.int .i64 what, .int .i64 en, .int .i64 size, .bool asks, .slice sad spans.length scap, .int .i64 delay, .int .i64 wait], row g.2.2.1 32 g.2.2.2 tSp g.2.1, ro sad tSp spans] ++ evsH (some ⟨gb, go, none⟩) evs)
          (V := fun g => g.1 ≤ 20 ∧ g.2.1.length = g.1 ∧ ∀ x ∈ g.2.1, 0 ≤ x.first ∧ x.first ≤ x.last ∧ x.last ≤ s.top) (μ := fun g => 20 - g.1) (0, [], none, 0) ⟨rfl, rfl, rfl, rfl, rfl, rfl, rfl, rfl, rfl, rfl, rfl, trivial⟩ ⟨by simp only; omega, rfl, fun x hx => (by cases hx)⟩
          (fun w h => pickL (tr_addNil 32 tSp h) (.cons selA (.cons selA (.cons selA (.cons selA (.cons selA (.cons selA (.cons selA (selL_tail [_] _))))))))) ?_
        rintro ⟨k, sp, asp, csp⟩ e' ⟨hk20, hspl, hsp⟩
        simp only at hk20 hspl hsp
        dsimp only [upds]
        by_cases hk : k < spans.length ∧ k < 20 ∧ 0 < l.length
        · obtain ⟨hk1, hk2, hk3⟩ := hk
          refine CW.ro_some (τ := tSp) (xs := spans) selA (by omega) fun gb2 go2 hg2 => ?_
          subst hg2
          obtain ⟨x, hxk⟩ : ∃ x, spans[k]? = some x := ⟨_, List.getElem?_eq_getElem hk1⟩
          have hA := tm_len x.first (n := (l.map (·.1)).length) (by omega) (by omega)
          have hB := tm_len x.last (n := (l.map (·.1)).length) (by omega) (by omega)
          have hb3 : (sp.length + 1) * 16 ≤ 140737488355328 := by omega
          repeat' (first
            | (
                refine cw_region (id := 0) rfl ?_
                all_goals refine wAssign ?_
                all_goals refine ow_nil ?_)
            | (
                refine cw_region (id := 2) rfl ?_
                all_goals refine wAssign ?_
                all_goals refine ow_nil ?_)
            | (
                refine cw_region (id := 4) rfl ?_
                all_goals refine wAssign ?_
                all_goals refine ow_nil ?_)
            | (
                refine cw_region (id := 5) rfl ?_
                all_goals refine wAssign ?_
                all_goals refine ow_nil ?_)
            | (
                refine cw_region (id := 6) rfl ?_
                all_goals refine wAssign ?_
                all_goals refine ow_nil ?_)
            | (
                refine cw_region (id := 7) rfl ?_
                all_goals refine wAssign ?_
                all_goals refine ow_nil ?_)
            | (
                refine cw_region (id := 8) rfl ?_
                all_goals refine wMove ?_
                all_goals refine wMove ?_
                all_goals refine wLen ?_
                all_goals (refine ow_cons ?_; first | refine st_rd (rd_rem rfl rfl (by omega) (tm_eq _ _)) ?_ | refine kLss ?_)
                all_goals refine wMove ?_
                all_goals (refine ow_cons ?_; first | (refine gTt ?_; refine kMove ?_) | refine gFt ?_ | refine gNo ?_ | refine gUn ?_ | (refine gYes ?_; refine kMove ?_) | (refine gSt (fun hc => ?_) (fun hc => ?_); (focus (refine kMove ?_))) | (refine gBt (fun hc => ?_) (fun hc => ?_); (focus (refine kMove ?_))))
                all_goals (refine ow_cons ?_; first | (refine gTt ?_; first | refine st_rd (rd_rem rfl rfl (by omega) (tm_eq _ _)) ?_ | refine kLss ?_) | refine gFt ?_ | refine gNo ?_ | refine gUn ?_ | (refine gYes ?_; first | refine st_rd (rd_rem rfl rfl (by omega) (tm_eq _ _)) ?_ | refine kLss ?_) | (refine gSt (fun hc => ?_) (fun hc => ?_); (focus (first | refine st_rd (rd_rem rfl rfl (by omega) (tm_eq _ _)) ?_ | refine kLss ?_))) | (refine gBt (fun hc => ?_) (fun hc => ?_); (focus (first | refine st_rd (rd_rem rfl rfl (by omega) (tm_eq _ _)) ?_ | refine kLss ?_))))
                all_goals refine wPick ?_
                all_goals refine ow_nil ?_)
            | (
                refine cw_region (id := 10) rfl ?_
                all_goals refine wMove ?_
                all_goals refine wMove ?_
                all_goals (refine ow_cons ?_; first | refine kIndex ?_ | (refine kIdxR (fun g hg => ?_); subst hg) | (refine kIdxO (fun gb go hg => ?_); subst hg))
                all_goals refine wLoad ?_
                all_goals (refine ow_cons ?_; refine st_alloc (fun bN => ?_))
                all_goals (refine ow_cons ?_; first | refine kStore ?_ | refine kStoreA ?_ | refine kStoreR ?_)
                all_goals refine ow_nil ?_)
            | (
                refine cw_region (id := 11) rfl ?_
                all_goals refine wMove ?_
                all_goals refine wField ?_
                all_goals refine wLoad ?_
                all_goals refine wConv ?_
                all_goals (refine ow_cons ?_; first | refine st_rd (rd_rem rfl rfl (by omega) (tm_eq _ _)) ?_ | refine kRem ?_)
                all_goals refine wConv ?_
                all_goals (refine ow_cons ?_; first | refine st_rd (rd_rem rfl rfl (by omega) (tm_eq _ _)) ?_ | refine kAdd ?_)
                all_goals refine wMin ?_
                all_goals refine wAssign ?_
                all_goals refine ow_nil ?_)
            | (
                refine cw_region (id := 12) rfl ?_
                all_goals refine wAssign ?_
                all_goals refine ow_nil ?_)
            | (
                refine cw_region (id := 13) rfl ?_
                all_goals refine wField ?_
                all_goals refine wLoad ?_
                all_goals refine ow_nil ?_)
            | (
                refine cw_region (id := 18) rfl ?_
                all_goals (refine ow_cons ?_; first | refine st_rd (rd_rem rfl rfl (by omega) (tm_eq _ _)) ?_ | refine kEql ?_)
                all_goals refine wAssign ?_
                all_goals refine ow_nil ?_)
            | (
                refine cw_region (id := 19) rfl ?_
                all_goals refine wAssign ?_
                all_goals refine ow_nil ?_)
            | (
                refine cw_region (id := 20) rfl ?_
                all_goals refine wAssign ?_
                all_goals refine ow_nil ?_)
            | (
                refine cw_region (id := 21) rfl ?_
                all_goals refine wMove ?_
                all_goals refine wField ?_
                all_goals refine wLoad ?_
                all_goals refine wLen ?_
                all_goals (refine ow_cons ?_; first | refine st_rd (rd_rem rfl rfl (by omega) (tm_eq _ _)) ?_ | refine kLss ?_)
                all_goals refine wMove ?_
                all_goals (refine ow_cons ?_; first | (refine gTt ?_; refine kMove ?_) | refine gFt ?_ | refine gNo ?_ | refine gUn ?_ | (refine gYes ?_; refine kMove ?_) | (refine gSt (fun hc => ?_) (fun hc => ?_); (focus (refine kMove ?_))) | (refine gBt (fun hc => ?_) (fun hc => ?_); (focus (refine kMove ?_))))
                all_goals (refine ow_cons ?_; first | (refine gTt ?_; first | refine st_rd (rd_rem rfl rfl (by omega) (tm_eq _ _)) ?_ | refine kLss ?_) | refine gFt ?_ | refine gNo ?_ | refine gUn ?_ | (refine gYes ?_; first | refine st_rd (rd_rem rfl rfl (by omega) (tm_eq _ _)) ?_ | refine kLss ?_) | (refine gSt (fun hc => ?_) (fun hc => ?_); (focus (first | refine st_rd (rd_rem rfl rfl (by omega) (tm_eq _ _)) ?_ | refine kLss ?_))) | (refine gBt (fun hc => ?_) (fun hc => ?_); (focus (first | refine st_rd (rd_rem rfl rfl (by omega) (tm_eq _ _)) ?_ | refine kLss ?_))))
                all_goals refine wPick ?_
                all_goals refine wMove ?_
                all_goals (refine ow_cons ?_; first | (refine gTt ?_; refine kMove ?_) | refine gFt ?_ | refine gNo ?_ | refine gUn ?_ | (refine gYes ?_; refine kMove ?_) | (refine gSt (fun hc => ?_) (fun hc => ?_); (focus (refine kMove ?_))) | (refine gBt (fun hc => ?_) (fun hc => ?_); (focus (refine kMove ?_))))
                all_goals (refine ow_cons ?_; first | (refine gTt ?_; refine kLen ?_) | refine gFt ?_ | refine gNo ?_ | refine gUn ?_ | (refine gYes ?_; refine kLen ?_) | (refine gSt (fun hc => ?_) (fun hc => ?_); (focus (refine kLen ?_))) | (refine gBt (fun hc => ?_) (fun hc => ?_); (focus (refine kLen ?_))))
                all_goals (refine ow_cons ?_; first | (refine gTt ?_; first | refine st_rd (rd_rem rfl rfl (by omega) (tm_eq _ _)) ?_ | refine kGtr ?_) | refine gFt ?_ | refine gNo ?_ | refine gUn ?_ | (refine gYes ?_; first | refine st_rd (rd_rem rfl rfl (by omega) (tm_eq _ _)) ?_ | refine kGtr ?_) | (refine gSt (fun hc => ?_) (fun hc => ?_); (focus (first | refine st_rd (rd_rem rfl rfl (by omega) (tm_eq _ _)) ?_ | refine kGtr ?_))) | (refine gBt (fun hc => ?_) (fun hc => ?_); (focus (first | refine st_rd (rd_rem rfl rfl (by omega) (tm_eq _ _)) ?_ | refine kGtr ?_))))
                all_goals refine wPick ?_
                all_goals refine ow_nil ?_)
            | (
                refine cw_draw (id := 23) 26 (by kernel_rfl) (by kernel_rfl) rfl ?_
                all_goals refine hField ?_
                all_goals refine hLoad ?_
                all_goals refine hMove ?_
                all_goals refine hIndex ?_
                all_goals refine hField ?_
                all_goals refine hLoad ?_
                all_goals refine hConv ?_
                all_goals refine hMove ?_
                all_goals refine hLen ?_
                all_goals refine hConv ?_
                all_goals (refine hw_cons ?_; first | refine os_rd (rd_rem rfl rfl (by omega) (tm_eq _ _)) ?_ | refine sRem ?_)
                all_goals refine hConv ?_
                all_goals refine hField ?_
                all_goals refine hLoad ?_
                all_goals refine hMove ?_
                all_goals refine hIndex ?_
                all_goals refine hField ?_
                all_goals refine hLoad ?_
                all_goals refine hConv ?_
                all_goals refine hMove ?_
                all_goals refine hLen ?_
                all_goals refine hConv ?_
                all_goals (refine hw_cons ?_; first | refine os_rd (rd_rem rfl rfl (by omega) (tm_eq _ _)) ?_ | refine sRem ?_)
                all_goals refine hConv ?_
                all_goals refine hAssign ?_
                all_goals refine hAssign ?_
                all_goals refine hw_nil ?_
                all_goals refine ow_nil ?_)
            | (
                refine cw_region (id := 24) rfl ?_
                all_goals refine wMove ?_
                all_goals refine wMove ?_
                all_goals refine wMove ?_
                all_goals refine wMin ?_
                all_goals refine wMove ?_
                all_goals refine wMove ?_
                all_goals refine wMax ?_
                all_goals (refine ow_cons ?_; refine st_rd (rd_build (vs := [.int _ _, .int _ _]) rfl) ?_)
                all_goals (refine ow_cons ?_; refine st_buildSlice (vs := [.int _ _, .int _ _]) rfl rfl rfl rfl (fun bN => ?_))
                all_goals (refine ow_cons ?_; (refine st_append1 (τ := tSp) (xs := sp) ⟨min (tm x.first (l.map (·.1)).length) (tm x.last (l.map (·.1)).length), max (tm x.first (l.map (·.1)).length) (tm x.last (l.map (·.1)).length)⟩ rfl rfl selA selA rfl rfl rfl hb3 (fun a' cap' => ?_)))
                all_goals refine wAssign ?_
                all_goals refine ow_nil ?_)
            | (
                refine cw_region (id := 22) rfl ?_
                all_goals refine wMove ?_
                all_goals (refine ow_cons ?_; first | refine st_rd (rd_rem rfl rfl (by omega) (tm_eq _ _)) ?_ | refine kAdd ?_)
                all_goals refine wAssign ?_
                all_goals refine ow_nil ?_)
            | (
                refine cw_region (id := 26) rfl ?_
                all_goals refine wMove ?_
                all_goals (refine ow_cons ?_; first | refine st_rd (rd_rem rfl rfl (by omega) (tm_eq _ _)) ?_ | refine kNeq ?_)
                all_goals refine ow_nil ?_)
            | (
                refine cw_region (id := 27) rfl ?_
                all_goals refine wAssign ?_
                all_goals refine ow_nil ?_)
            | (
                refine cw_region (id := 28) rfl ?_
                all_goals refine wMove ?_
                all_goals refine wMove ?_
                all_goals (refine ow_cons ?_; (refine st_append1 (τ := tSp) (xs := sp) ⟨min (tm x.first (l.map (·.1)).length) (tm x.last (l.map (·.1)).length), max (tm x.first (l.map (·.1)).length) (tm x.last (l.map (·.1)).length)⟩ rfl rfl selA selA rfl rfl rfl hb3 (fun a' cap' => ?_)))
                all_goals refine wMove ?_
                all_goals (refine ow_cons ?_; (refine st_append1 (τ := tSp) (xs := sp) ⟨min (tm x.first (l.map (·.1)).length) (tm x.last (l.map (·.1)).length), max (tm x.first (l.map (·.1)).length) (tm x.last (l.map (·.1)).length)⟩ rfl rfl selA selA rfl rfl rfl hb3 (fun a' cap' => ?_)))
                all_goals refine wAssign ?_
                all_goals refine ow_nil ?_)
            | (
                refine cw_region (id := 29) rfl ?_
                all_goals (refine ow_cons ?_; first | refine st_rd (rd_rem rfl rfl (by omega) (tm_eq _ _)) ?_ | refine kEql ?_)
                all_goals refine wAssign ?_
                all_goals refine ow_nil ?_)
            | (
                refine cw_region (id := 31) rfl ?_
                all_goals refine wMove ?_
                all_goals (refine ow_cons ?_; first | refine st_rd (rd_rem rfl rfl (by omega) (tm_eq _ _)) ?_ | refine kNeq ?_)
                all_goals refine ow_nil ?_)
            | (
                refine cw_region (id := 32) rfl ?_
                all_goals refine wAssign ?_
                all_goals refine ow_nil ?_)
            | (
                refine cw_region (id := 33) rfl ?_
                all_goals refine wMove ?_
                all_goals refine wAssign ?_
                all_goals refine ow_nil ?_)
            | (
                refine cw_region (id := 14) rfl ?_
                all_goals refine wField ?_
                all_goals refine wLoad ?_
                all_goals refine wConv ?_
                all_goals (refine ow_cons ?_; first | refine st_rd (rd_rem rfl rfl (by omega) (tm_eq _ _)) ?_ | refine kRem ?_)
                all_goals refine wConv ?_
                all_goals (refine ow_cons ?_; first | refine st_rd (rd_rem rfl rfl (by omega) (tm_eq _ _)) ?_ | refine kAdd ?_)
                all_goals refine wAssign ?_
                all_goals refine ow_nil ?_)
            | (
                refine cw_region (id := 16) rfl ?_
                all_goals refine wAssign ?_
                all_goals refine ow_nil ?_)
            | (
                refine cw_region (id := 17) rfl ?_
                all_goals refine wMove ?_
                all_goals refine wMove ?_
                all_goals (refine ow_cons ?_; refine st_buildSlice (vs := [.int _ _]) rfl rfl rfl rfl (fun bN => ?_))
                all_goals (refine ow_cons ?_; (refine st_append1 (τ := tSp) (xs := sp) ⟨min (tm x.first (l.map (·.1)).length) (tm x.last (l.map (·.1)).length), max (tm x.first (l.map (·.1)).length) (tm x.last (l.map (·.1)).length)⟩ rfl rfl selA selA rfl rfl rfl hb3 (fun a' cap' => ?_)))
                all_goals refine wMove ?_
                all_goals (refine ow_cons ?_; refine st_buildSlice (vs := [.bool _]) rfl rfl rfl rfl (fun bN => ?_))
                all_goals (refine ow_cons ?_; (refine st_append1 (τ := tSp) (xs := sp) ⟨min (tm x.first (l.map (·.1)).length) (tm x.last (l.map (·.1)).length), max (tm x.first (l.map (·.1)).length) (tm x.last (l.map (·.1)).length)⟩ rfl rfl selA selA rfl rfl rfl hb3 (fun a' cap' => ?_)))
                all_goals refine wAssign ?_
                all_goals refine wAssign ?_
                all_goals refine ow_nil ?_)
            | (
                refine cw_region (id := 34) rfl ?_
                all_goals refine wAssign ?_
                all_goals refine ow_nil ?_)
            | (
                refine cw_region (id := 35) rfl ?_
                all_goals refine wMove ?_
                all_goals refine wMove ?_
                all_goals refine wLen ?_
                all_goals (refine ow_cons ?_; first | refine st_rd (rd_rem rfl rfl (by omega) (tm_eq _ _)) ?_ | refine kLss ?_)
                all_goals refine ow_nil ?_)
            | (
                refine cw_region (id := 37) rfl ?_
                all_goals refine wMove ?_
                all_goals refine wMove ?_
                all_goals (refine ow_cons ?_; first | refine kIndex ?_ | (refine kIdxR (fun g hg => ?_); subst hg) | (refine kIdxO (fun gb go hg => ?_); subst hg))
                all_goals refine wLoad ?_
                all_goals (refine ow_cons ?_; first | refine st_rd (rd_rem rfl rfl (by omega) (tm_eq _ _)) ?_ | refine kLss ?_)
                all_goals refine wMove ?_
                all_goals (refine ow_cons ?_; first | (refine gTf ?_; refine kMove ?_) | refine gFf ?_ | refine gNo ?_ | refine gUn ?_ | (refine gYes ?_; refine kMove ?_) | (refine gSf (fun hc => ?_) (fun hc => ?_); rotate_left; (focus (refine kMove ?_)); rotate_right) | (refine gBf (fun hc => ?_) (fun hc => ?_); rotate_left; (focus (refine kMove ?_)); rotate_right))
                all_goals (refine ow_cons ?_; first | (refine gTf ?_; refine kMove ?_) | refine gFf ?_ | refine gNo ?_ | refine gUn ?_ | (refine gYes ?_; refine kMove ?_) | (refine gSf (fun hc => ?_) (fun hc => ?_); rotate_left; (focus (refine kMove ?_)); rotate_right) | (refine gBf (fun hc => ?_) (fun hc => ?_); rotate_left; (focus (refine kMove ?_)); rotate_right))
                all_goals (refine ow_cons ?_; first | (refine gTf ?_; first | refine kIndex ?_ | (refine kIdxR (fun g hg => ?_); subst hg) | (refine kIdxO (fun gb go hg => ?_); subst hg)) | refine gFf ?_ | refine gNo ?_ | refine gUn ?_ | (refine gYes ?_; first | refine kIndex ?_ | (refine kIdxR (fun g hg => ?_); subst hg) | (refine kIdxO (fun gb go hg => ?_); subst hg)) | (refine gSf (fun hc => ?_) (fun hc => ?_); rotate_left; (focus (first | refine kIndex ?_ | (refine kIdxR (fun g hg => ?_); subst hg) | (refine kIdxO (fun gb go hg => ?_); subst hg))); rotate_right) | (refine gBf (fun hc => ?_) (fun hc => ?_); rotate_left; (focus (first | refine kIndex ?_ | (refine kIdxR (fun g hg => ?_); subst hg) | (refine kIdxO (fun gb go hg => ?_); subst hg))); rotate_right))
                all_goals (refine ow_cons ?_; first | (refine gTf ?_; refine kLoad ?_) | refine gFf ?_ | refine gNo ?_ | refine gUn ?_ | (refine gYes ?_; refine kLoad ?_) | (refine gSf (fun hc => ?_) (fun hc => ?_); rotate_left; (focus (refine kLoad ?_)); rotate_right) | (refine gBf (fun hc => ?_) (fun hc => ?_); rotate_left; (focus (refine kLoad ?_)); rotate_right))
                all_goals (refine ow_cons ?_; first | (refine gTf ?_; refine kMove ?_) | refine gFf ?_ | refine gNo ?_ | refine gUn ?_ | (refine gYes ?_; refine kMove ?_) | (refine gSf (fun hc => ?_) (fun hc => ?_); rotate_left; (focus (refine kMove ?_)); rotate_right) | (refine gBf (fun hc => ?_) (fun hc => ?_); rotate_left; (focus (refine kMove ?_)); rotate_right))
                all_goals (refine ow_cons ?_; first | (refine gTf ?_; refine kLen ?_) | refine gFf ?_ | refine gNo ?_ | refine gUn ?_ | (refine gYes ?_; refine kLen ?_) | (refine gSf (fun hc => ?_) (fun hc => ?_); rotate_left; (focus (refine kLen ?_)); rotate_right) | (refine gBf (fun hc => ?_) (fun hc => ?_); rotate_left; (focus (refine kLen ?_)); rotate_right))
                all_goals (refine ow_cons ?_; first | (refine gTf ?_; first | refine st_rd (rd_rem rfl rfl (by omega) (tm_eq _ _)) ?_ | refine kGeq ?_) | refine gFf ?_ | refine gNo ?_ | refine gUn ?_ | (refine gYes ?_; first | refine st_rd (rd_rem rfl rfl (by omega) (tm_eq _ _)) ?_ | refine kGeq ?_) | (refine gSf (fun hc => ?_) (fun hc => ?_); rotate_left; (focus (first | refine st_rd (rd_rem rfl rfl (by omega) (tm_eq _ _)) ?_ | refine kGeq ?_)); rotate_right) | (refine gBf (fun hc => ?_) (fun hc => ?_); rotate_left; (focus (first | refine st_rd (rd_rem rfl rfl (by omega) (tm_eq _ _)) ?_ | refine kGeq ?_)); rotate_right))
                all_goals refine wPick ?_
                all_goals refine wMove ?_
                all_goals (refine ow_cons ?_; first | (refine gTf ?_; refine kMove ?_) | refine gFf ?_ | refine gNo ?_ | refine gUn ?_ | (refine gYes ?_; refine kMove ?_) | (refine gSf (fun hc => ?_) (fun hc => ?_); rotate_left; (focus (refine kMove ?_)); rotate_right) | (refine gBf (fun hc => ?_) (fun hc => ?_); rotate_left; (focus (refine kMove ?_)); rotate_right))
                all_goals (refine ow_cons ?_; first | (refine gTf ?_; refine kMove ?_) | refine gFf ?_ | refine gNo ?_ | refine gUn ?_ | (refine gYes ?_; refine kMove ?_) | (refine gSf (fun hc => ?_) (fun hc => ?_); rotate_left; (focus (refine kMove ?_)); rotate_right) | (refine gBf (fun hc => ?_) (fun hc => ?_); rotate_left; (focus (refine kMove ?_)); rotate_right))
                all_goals (refine ow_cons ?_; first | (refine gTf ?_; refine kMove ?_) | refine gFf ?_ | refine gNo ?_ | refine gUn ?_ | (refine gYes ?_; refine kMove ?_) | (refine gSf (fun hc => ?_) (fun hc => ?_); rotate_left; (focus (refine kMove ?_)); rotate_right) | (refine gBf (fun hc => ?_) (fun hc => ?_); rotate_left; (focus (refine kMove ?_)); rotate_right))
                all_goals (refine ow_cons ?_; first | (refine gTf ?_; first | refine kIndex ?_ | (refine kIdxR (fun g hg => ?_); subst hg) | (refine kIdxO (fun gb go hg => ?_); subst hg)) | refine gFf ?_ | refine gNo ?_ | refine gUn ?_ | (refine gYes ?_; first | refine kIndex ?_ | (refine kIdxR (fun g hg => ?_); subst hg) | (refine kIdxO (fun gb go hg => ?_); subst hg)) | (refine gSf (fun hc => ?_) (fun hc => ?_); rotate_left; (focus (first | refine kIndex ?_ | (refine kIdxR (fun g hg => ?_); subst hg) | (refine kIdxO (fun gb go hg => ?_); subst hg))); rotate_right) | (refine gBf (fun hc => ?_) (fun hc => ?_); rotate_left; (focus (first | refine kIndex ?_ | (refine kIdxR (fun g hg => ?_); subst hg) | (refine kIdxO (fun gb go hg => ?_); subst hg))); rotate_right))
                all_goals (refine ow_cons ?_; first | (refine gTf ?_; refine kLoad ?_) | refine gFf ?_ | refine gNo ?_ | refine gUn ?_ | (refine gYes ?_; refine kLoad ?_) | (refine gSf (fun hc => ?_) (fun hc => ?_); rotate_left; (focus (refine kLoad ?_)); rotate_right) | (refine gBf (fun hc => ?_) (fun hc => ?_); rotate_left; (focus (refine kLoad ?_)); rotate_right))
                all_goals (refine ow_cons ?_; first | (refine gTf ?_; first | refine kIndex ?_ | (refine kIdxR (fun g hg => ?_); subst hg) | (refine kIdxO (fun gb go hg => ?_); subst hg)) | refine gFf ?_ | refine gNo ?_ | refine gUn ?_ | (refine gYes ?_; first | refine kIndex ?_ | (refine kIdxR (fun g hg => ?_); subst hg) | (refine kIdxO (fun gb go hg => ?_); subst hg)) | (refine gSf (fun hc => ?_) (fun hc => ?_); rotate_left; (focus (first | refine kIndex ?_ | (refine kIdxR (fun g hg => ?_); subst hg) | (refine kIdxO (fun gb go hg => ?_); subst hg))); rotate_right) | (refine gBf (fun hc => ?_) (fun hc => ?_); rotate_left; (focus (first | refine kIndex ?_ | (refine kIdxR (fun g hg => ?_); subst hg) | (refine kIdxO (fun gb go hg => ?_); subst hg))); rotate_right))
                all_goals (refine ow_cons ?_; first | (refine gTf ?_; refine kLoad ?_) | refine gFf ?_ | refine gNo ?_ | refine gUn ?_ | (refine gYes ?_; refine kLoad ?_) | (refine gSf (fun hc => ?_) (fun hc => ?_); rotate_left; (focus (refine kLoad ?_)); rotate_right) | (refine gBf (fun hc => ?_) (fun hc => ?_); rotate_left; (focus (refine kLoad ?_)); rotate_right))
                all_goals refine wPick ?_
                all_goals refine ow_nil ?_)
            | (
                refine cw_region (id := 38) rfl ?_
                all_goals refine wAssign ?_
                all_goals refine ow_nil ?_)
            | (
                refine cw_region (id := 39) rfl ?_
                all_goals refine wMove ?_
                all_goals refine wMove ?_
                all_goals refine wMove ?_
                all_goals (refine ow_cons ?_; first | refine kIndex ?_ | (refine kIdxR (fun g hg => ?_); subst hg) | (refine kIdxO (fun gb go hg => ?_); subst hg))
                all_goals refine wLoad ?_
                all_goals (refine ow_cons ?_; first | refine kIndex ?_ | (refine kIdxR (fun g hg => ?_); subst hg) | (refine kIdxO (fun gb go hg => ?_); subst hg))
                all_goals (refine ow_cons ?_; first | refine kStore ?_ | refine kStoreA ?_ | refine kStoreR ?_)
                all_goals refine ow_nil ?_)
            | (
                refine cw_region (id := 36) rfl ?_
                all_goals refine wMove ?_
                all_goals (refine ow_cons ?_; first | refine st_rd (rd_rem rfl rfl (by omega) (tm_eq _ _)) ?_ | refine kAdd ?_)
                all_goals refine wAssign ?_
                all_goals refine ow_nil ?_)
            | (
                refine cw_region (id := 40) rfl ?_
                all_goals refine wAssign ?_
                all_goals refine ow_nil ?_)
            | (
                refine cw_region (id := 41) rfl ?_
                all_goals refine wAssign ?_
                all_goals refine ow_nil ?_)
            | (
                refine cw_region (id := 42) rfl ?_
                all_goals refine wMove ?_
                all_goals refine wMove ?_
                all_goals refine wLen ?_
                all_goals (refine ow_cons ?_; first | refine st_rd (rd_rem rfl rfl (by omega) (tm_eq _ _)) ?_ | refine kLss ?_)
                all_goals refine ow_nil ?_)
            | (
                refine cw_region (id := 44) rfl ?_
                all_goals refine wMove ?_
                all_goals refine wMove ?_
                all_goals (refine ow_cons ?_; first | refine kIndex ?_ | (refine kIdxR (fun g hg => ?_); subst hg) | (refine kIdxO (fun gb go hg => ?_); subst hg))
                all_goals refine wLoad ?_
                all_goals refine wNot ?_
                all_goals refine ow_nil ?_)
            | (
                refine cw_region (id := 45) rfl ?_
                all_goals refine wMove ?_
                all_goals refine wMove ?_
                all_goals refine wMove ?_
                all_goals (refine ow_cons ?_; first | refine kIndex ?_ | (refine kIdxR (fun g hg => ?_); subst hg) | (refine kIdxO (fun gb go hg => ?_); subst hg))
                all_goals refine wLoad ?_
                all_goals (refine ow_cons ?_; first | refine st_rd (rd_rem rfl rfl (by omega) (tm_eq _ _)) ?_ | refine kAdd ?_)
                all_goals refine wAssign ?_
                all_goals refine ow_nil ?_)
            | (
                refine cw_region (id := 43) rfl ?_
                all_goals refine wMove ?_
                all_goals (refine ow_cons ?_; first | refine st_rd (rd_rem rfl rfl (by omega) (tm_eq _ _)) ?_ | refine kAdd ?_)
                all_goals refine wAssign ?_
                all_goals refine ow_nil ?_)
            | (
                refine cw_region (id := 47) rfl ?_
                all_goals refine wAssign ?_
                all_goals refine ow_nil ?_)
            | (
                refine cw_region (id := 9) rfl ?_
                all_goals refine wMove ?_
                all_goals (refine ow_cons ?_; first | refine st_rd (rd_rem rfl rfl (by omega) (tm_eq _ _)) ?_ | refine kAdd ?_)
                all_goals refine wAssign ?_
                all_goals refine ow_nil ?_)
            | (
                refine cw_region (id := 48) rfl ?_
                all_goals refine wAssign ?_
                all_goals refine ow_nil ?_)
            | refine cw_seq ?_
            | refine tq_n ?_
            | (refine isCW ?_; first | refine cw_region rfl ?_ | refine cw_skip ?_ | refine cw_ret ?_ | refine cw_exit ?_ | refine cw_block ?_ | refine cT ?_ | refine cF ?_ | refine cTrue ?_ | refine cFalse ?_ | refine cS (fun hc => ?_) (fun hc => ?_) | refine cB (fun hc => ?_) (fun hc => ?_))
            | refine tq_ret ?_ | refine tq_exit ?_ | refine bq_n ?_ | refine bq_ret ?_ | refine bq_same ?_ | refine bq_ne rfl ?_
            | refine ow_cons ?_ | refine ow_nil ?_
            | (refine isOpK ?_; first
              | (refine isG ?_; first | refine opk_yes rfl rfl ?_ | refine opk_no rfl rfl ?_ | refine opk_no_undef rfl rfl ?_ | refine opk_g_t rfl rfl (by omega) ?_ | refine opk_g_f rfl rfl (by omega) ?_ | refine opk_g_s rfl rfl (fun hc => ?_) (fun hc => ?_) | refine opk_g_b rfl rfl (fun hc => ?_) (fun hc => ?_))
              | refine st_rd (by exact rd_rem rfl rfl (by omega) (tm_eq _ _)) ?_
              | refine kRd ?_
              | refine kStore ?_
              | refine kStoreA ?_
              | refine kStoreR ?_
              | (refine kIdxR (fun g hg => ?_); subst hg)
              | (refine kIdxO (fun gb go hg => ?_); subst hg)
              | refine st_alloc (fun bN => ?_)
              | refine kBox (fun bN => ?_)
              | refine kBoxA (fun bN => ?_)
              | (refine st_buildSlice rfl rfl rfl rfl (fun bN => ?_))
              | (refine st_clearR rfl selA rfl (by omega) rfl rfl rfl ?_)
              | (refine st_clearR rfl selA (by omega) (by omega) rfl rfl rfl ?_)
              | (refine st_append1 (τ := tSp) (xs := sp) ⟨min (tm x.first (l.map (·.1)).length) (tm x.last (l.map (·.1)).length), max (tm x.first (l.map (·.1)).length) (tm x.last (l.map (·.1)).length)⟩ rfl rfl selA selA rfl rfl rfl hb3 (fun a' cap' => ?_)))
            | refine hw_cons ?_ | refine hw_nil ?_
            | (refine isOpS ?_; first
              | (refine os_isG ?_; first | refine os_yes rfl rfl ?_ | refine os_no rfl rfl ?_ | refine os_no_undef rfl rfl ?_ | refine os_g_t rfl rfl (by omega) ?_ | refine os_g_f rfl rfl (by omega) ?_ | refine os_g_s rfl rfl (fun hc => ?_) (fun hc => ?_) | refine os_g_b rfl rfl (fun hc => ?_) (fun hc => ?_))
              | refine os_rd (by exact rd_rem rfl rfl (by omega) (tm_eq _ _)) ?_
              | refine sRd ?_))
          refine lp_end (k + 1, sp ++ [⟨min (tm x.first (l.map (·.1)).length) (tm x.last (l.map (·.1)).length), max (tm x.first (l.map (·.1)).length) (tm x.last (l.map (·.1)).length)⟩], a', cap') ⟨rfl, rfl, rfl, rfl, rfl, rfl, rfl, rfl, rfl, rfl, rfl, trivial⟩ ⟨by simp only; omega, by simp only [List.length_append, List.length_singleton]; omega, fun y hy => ?_⟩ (by simp only; omega) (fun w h => pickL h (.cons selA (.cons selA (.cons selA (.cons selA (.cons selA (.cons selA (.cons selA (selL_all _)))))))))
          rcases List.mem_append.1 hy with hy | hy
          · exact hsp y hy
          · obtain rfl := List.mem_singleton.1 hy
            simp only; omega
        · have hd : 0 ≤ delay % 18446744073709551616 % 100 ∧ delay % 18446744073709551616 % 100 ≤ 1099511627776 := by omega
          obtain ⟨s3, ca, lo, hae⟩ := acked_fine (s := s) (xs := sp) (delay := delay % 18446744073709551616 % 100) (t := now2) ⟨hnb.1, hnb.2.2⟩ hd hsp
          obtain ⟨hat, han, hca, hlo⟩ := acked_tells hI2.ok hae
          have hao := acked_ok hI2.ok sp (delay % 18446744073709551616 % 100) now2
          rw [hae] at hao
          have hacked := acked11 b s a c (oad asp) csp sp (delay % 18446744073709551616 % 100) now2 (by omega) hI2.ok
          rw [hae] at hacked
          have hb4 : (([] : List Int).length + ca.length) * 8 ≤ 140737488355328 := by simp; omega
          have hb5 : (([] ++ ca : List Int).length + lo.length) * 8 ≤ 140737488355328 := by simp; omega
          repeat' (first
            | (
                refine cw_region (id := 0) rfl ?_
                all_goals refine wAssign ?_
                all_goals refine ow_nil ?_)
            | (
                refine cw_region (id := 2) rfl ?_
                all_goals refine wAssign ?_
                all_goals refine ow_nil ?_)
            | (
                refine cw_region (id := 4) rfl ?_
                all_goals refine wAssign ?_
                all_goals refine ow_nil ?_)
            | (
                refine cw_region (id := 5) rfl ?_
                all_goals refine wAssign ?_
                all_goals refine ow_nil ?_)
            | (
                refine cw_region (id := 6) rfl ?_
                all_goals refine wAssign ?_
                all_goals refine ow_nil ?_)
            | (
                refine cw_region (id := 7) rfl ?_
                all_goals refine wAssign ?_
                all_goals refine ow_nil ?_)
            | (
                refine cw_region (id := 8) rfl ?_
                all_goals refine wMove ?_
                all_goals refine wMove ?_
                all_goals refine wLen ?_
                all_goals refine wLss ?_
                all_goals refine wMove ?_
                all_goals (refine ow_cons ?_; first | (refine gTt ?_; refine kMove ?_) | refine gFt ?_ | refine gNo ?_ | refine gUn ?_ | (refine gYes ?_; refine kMove ?_) | (refine gSt (fun hc => ?_) (fun hc => ?_); (focus (refine kMove ?_))) | (refine gBt (fun hc => ?_) (fun hc => ?_); (focus (refine kMove ?_))))
                all_goals (refine ow_cons ?_; first | (refine gTt ?_; refine kLss ?_) | refine gFt ?_ | refine gNo ?_ | refine gUn ?_ | (refine gYes ?_; refine kLss ?_) | (refine gSt (fun hc => ?_) (fun hc => ?_); (focus (refine kLss ?_))) | (refine gBt (fun hc => ?_) (fun hc => ?_); (focus (refine kLss ?_))))
                all_goals refine wPick ?_
                all_goals refine ow_nil ?_)
            | (
                refine cw_region (id := 10) rfl ?_
                all_goals refine wMove ?_
                all_goals refine wMove ?_
                all_goals (refine ow_cons ?_; first | refine kIndex ?_ | (refine kIdxR (fun g hg => ?_); subst hg) | (refine kIdxO (fun gb go hg => ?_); subst hg))
                all_goals refine wLoad ?_
                all_goals (refine ow_cons ?_; refine st_alloc (fun bN => ?_))
                all_goals (refine ow_cons ?_; first | refine kStore ?_ | refine kStoreA ?_ | refine kStoreR ?_)
                all_goals refine ow_nil ?_)
            | (
                refine cw_region (id := 11) rfl ?_
                all_goals refine wMove ?_
                all_goals refine wField ?_
                all_goals refine wLoad ?_
                all_goals refine wConv ?_
                all_goals refine wRem ?_
                all_goals refine wConv ?_
                all_goals refine wAdd ?_
                all_goals refine wMin ?_
                all_goals refine wAssign ?_
                all_goals refine ow_nil ?_)
            | (
                refine cw_region (id := 12) rfl ?_
                all_goals refine wAssign ?_
                all_goals refine ow_nil ?_)
            | (
                refine cw_region (id := 13) rfl ?_
                all_goals refine wField ?_
                all_goals refine wLoad ?_
                all_goals refine ow_nil ?_)
            | (
                refine cw_region (id := 18) rfl ?_
                all_goals refine wEql ?_
                all_goals refine wAssign ?_
                all_goals refine ow_nil ?_)
            | (
                refine cw_region (id := 19) rfl ?_
                all_goals refine wAssign ?_
                all_goals refine ow_nil ?_)
            | (
                refine cw_region (id := 20) rfl ?_
                all_goals refine wAssign ?_
                all_goals refine ow_nil ?_)
            | (
                refine cw_region (id := 21) rfl ?_
                all_goals refine wMove ?_
                all_goals refine wField ?_
                all_goals refine wLoad ?_
                all_goals refine wLen ?_
                all_goals refine wLss ?_
                all_goals refine wMove ?_
                all_goals (refine ow_cons ?_; first | (refine gTt ?_; refine kMove ?_) | refine gFt ?_ | refine gNo ?_ | refine gUn ?_ | (refine gYes ?_; refine kMove ?_) | (refine gSt (fun hc => ?_) (fun hc => ?_); (focus (refine kMove ?_))) | (refine gBt (fun hc => ?_) (fun hc => ?_); (focus (refine kMove ?_))))
                all_goals (refine ow_cons ?_; first | (refine gTt ?_; refine kLss ?_) | refine gFt ?_ | refine gNo ?_ | refine gUn ?_ | (refine gYes ?_; refine kLss ?_) | (refine gSt (fun hc => ?_) (fun hc => ?_); (focus (refine kLss ?_))) | (refine gBt (fun hc => ?_) (fun hc => ?_); (focus (refine kLss ?_))))
                all_goals refine wPick ?_
                all_goals refine wMove ?_
                all_goals (refine ow_cons ?_; first | (refine gTt ?_; refine kMove ?_) | refine gFt ?_ | refine gNo ?_ | refine gUn ?_ | (refine gYes ?_; refine kMove ?_) | (refine gSt (fun hc => ?_) (fun hc => ?_); (focus (refine kMove ?_))) | (refine gBt (fun hc => ?_) (fun hc => ?_); (focus (refine kMove ?_))))
                all_goals (refine ow_cons ?_; first | (refine gTt ?_; refine kLen ?_) | refine gFt ?_ | refine gNo ?_ | refine gUn ?_ | (refine gYes ?_; refine kLen ?_) | (refine gSt (fun hc => ?_) (fun hc => ?_); (focus (refine kLen ?_))) | (refine gBt (fun hc => ?_) (fun hc => ?_); (focus (refine kLen ?_))))
                all_goals (refine ow_cons ?_; first | (refine gTt ?_; refine kGtr ?_) | refine gFt ?_ | refine gNo ?_ | refine gUn ?_ | (refine gYes ?_; refine kGtr ?_) | (refine gSt (fun hc => ?_) (fun hc => ?_); (focus (refine kGtr ?_))) | (refine gBt (fun hc => ?_) (fun hc => ?_); (focus (refine kGtr ?_))))
                all_goals refine wPick ?_
                all_goals refine ow_nil ?_)
            | (
                refine cw_draw (id := 23) 26 (by kernel_rfl) (by kernel_rfl) rfl ?_
                all_goals refine hField ?_
                all_goals refine hLoad ?_
                all_goals refine hMove ?_
                all_goals refine hIndex ?_
                all_goals refine hField ?_
                all_goals refine hLoad ?_
                all_goals refine hConv ?_
                all_goals refine hMove ?_
                all_goals refine hLen ?_
                all_goals refine hConv ?_
                all_goals refine hRem ?_
                all_goals refine hConv ?_
                all_goals refine hField ?_
                all_goals refine hLoad ?_
                all_goals refine hMove ?_
                all_goals refine hIndex ?_
                all_goals refine hField ?_
                all_goals refine hLoad ?_
                all_goals refine hConv ?_
                all_goals refine hMove ?_
                all_goals refine hLen ?_
                all_goals refine hConv ?_
                all_goals refine hRem ?_
                all_goals refine hConv ?_
                all_goals refine hAssign ?_
                all_goals refine hAssign ?_
                all_goals refine hw_nil ?_
                all_goals refine ow_nil ?_)
            | (
                refine cw_region (id := 24) rfl ?_
                all_goals refine wMove ?_
                all_goals refine wMove ?_
                all_goals refine wMove ?_
                all_goals refine wMin ?_
                all_goals refine wMove ?_
                all_goals refine wMove ?_
                all_goals refine wMax ?_
                all_goals (refine ow_cons ?_; refine st_rd (rd_build (vs := [.int _ _, .int _ _]) rfl) ?_)
                all_goals (refine ow_cons ?_; refine st_buildSlice (vs := [.int _ _, .int _ _]) rfl rfl rfl rfl (fun bN => ?_))
                all_goals (refine ow_cons ?_; first | (refine OpK.heap ?_ (fun w h => tr_addNil 3 (tInt .i64) h); refine st_appendR (a := none) (cap := 0) (τ := tInt .i64) (xs := ([] : List Int)) (ys := ca) rfl rfl selA selA rfl rfl hb4 (fun a' cap' => ?_)) | (refine st_appendR (τ := tInt .i64) (xs := [] ++ ca) (ys := lo) rfl rfl selA selA rfl rfl hb5 (fun a' cap' => ?_)))
                all_goals refine wAssign ?_
                all_goals refine ow_nil ?_)
            | (
                refine cw_region (id := 22) rfl ?_
                all_goals refine wMove ?_
                all_goals refine wAdd ?_
                all_goals refine wAssign ?_
                all_goals refine ow_nil ?_)
            | (
                refine cw_region (id := 25) rfl ?_
                all_goals refine wMove ?_
                all_goals refine wMove ?_
                all_goals refine wField ?_
                all_goals refine wLoad ?_
                all_goals refine wConv ?_
                all_goals refine wRem ?_
                all_goals refine wConv ?_
                all_goals refine wMove ?_
                all_goals (refine ow_cons ?_; (refine OpK.heap ?_ (fun w h => tr_row_ro (a := asp) (T := 32) (cap := csp) (τ := tSp) (xs := sp) selA h); refine st_call (av := [_, _, _, _]) rfl hacked (.cons selA (.cons selA (.cons selA (.nil _)))) ?_; rintro v L' ⟨a1, c1, a2, c2, rfl, rfl⟩))
                all_goals refine wMove ?_
                all_goals refine wExtract ?_
                all_goals refine wExtract ?_
                all_goals refine wExtract ?_
                all_goals refine wAssign ?_
                all_goals refine wAssign ?_
                all_goals refine wAssign ?_
                all_goals refine ow_nil ?_)
            | (
                refine cw_region (id := 26) rfl ?_
                all_goals refine wMove ?_
                all_goals refine wNeq ?_
                all_goals refine ow_nil ?_)
            | (
                refine cw_region (id := 27) rfl ?_
                all_goals refine wAssign ?_
                all_goals refine ow_nil ?_)
            | (
                refine cw_region (id := 28) rfl ?_
                all_goals refine wMove ?_
                all_goals refine wMove ?_
                all_goals (refine ow_cons ?_; first | (refine OpK.heap ?_ (fun w h => tr_addNil 3 (tInt .i64) h); refine st_appendR (a := none) (cap := 0) (τ := tInt .i64) (xs := ([] : List Int)) (ys := ca) rfl rfl selA selA rfl rfl hb4 (fun a' cap' => ?_)) | (refine st_appendR (τ := tInt .i64) (xs := [] ++ ca) (ys := lo) rfl rfl selA selA rfl rfl hb5 (fun a' cap' => ?_)))
                all_goals refine wMove ?_
                all_goals (refine ow_cons ?_; first | (refine OpK.heap ?_ (fun w h => tr_addNil 3 (tInt .i64) h); refine st_appendR (a := none) (cap := 0) (τ := tInt .i64) (xs := ([] : List Int)) (ys := ca) rfl rfl selA selA rfl rfl hb4 (fun a' cap' => ?_)) | (refine st_appendR (τ := tInt .i64) (xs := [] ++ ca) (ys := lo) rfl rfl selA selA rfl rfl hb5 (fun a' cap' => ?_)))
                all_goals refine wAssign ?_
                all_goals refine ow_nil ?_)
            | (
                refine cw_region (id := 29) rfl ?_
                all_goals refine wEql ?_
                all_goals refine wAssign ?_
                all_goals refine ow_nil ?_)
            | (
                refine cw_region (id := 31) rfl ?_
                all_goals refine wMove ?_
                all_goals refine wNeq ?_
                all_goals refine ow_nil ?_)
            | (
                refine cw_region (id := 32) rfl ?_
                all_goals refine wAssign ?_
                all_goals refine ow_nil ?_)
            | (
                refine cw_region (id := 33) rfl ?_
                all_goals refine wMove ?_
                all_goals refine wAssign ?_
                all_goals refine ow_nil ?_)
            | (
                refine cw_region (id := 14) rfl ?_
                all_goals refine wField ?_
                all_goals refine wLoad ?_
                all_goals refine wConv ?_
                all_goals refine wRem ?_
                all_goals refine wConv ?_
                all_goals refine wAdd ?_
                all_goals refine wAssign ?_
                all_goals refine ow_nil ?_)
            | (
                refine cw_region (id := 16) rfl ?_
                all_goals refine wAssign ?_
                all_goals refine ow_nil ?_)
            | (
                refine cw_region (id := 17) rfl ?_
                all_goals refine wMove ?_
                all_goals refine wMove ?_
                all_goals (refine ow_cons ?_; refine st_buildSlice (vs := [.int _ _]) rfl rfl rfl rfl (fun bN => ?_))
                all_goals (refine ow_cons ?_; first | (refine OpK.heap ?_ (fun w h => tr_addNil 3 (tInt .i64) h); refine st_appendR (a := none) (cap := 0) (τ := tInt .i64) (xs := ([] : List Int)) (ys := ca) rfl rfl selA selA rfl rfl hb4 (fun a' cap' => ?_)) | (refine st_appendR (τ := tInt .i64) (xs := [] ++ ca) (ys := lo) rfl rfl selA selA rfl rfl hb5 (fun a' cap' => ?_)))
                all_goals refine wMove ?_
                all_goals (refine ow_cons ?_; refine st_buildSlice (vs := [.bool _]) rfl rfl rfl rfl (fun bN => ?_))
                all_goals (refine ow_cons ?_; first | (refine OpK.heap ?_ (fun w h => tr_addNil 3 (tInt .i64) h); refine st_appendR (a := none) (cap := 0) (τ := tInt .i64) (xs := ([] : List Int)) (ys := ca) rfl rfl selA selA rfl rfl hb4 (fun a' cap' => ?_)) | (refine st_appendR (τ := tInt .i64) (xs := [] ++ ca) (ys := lo) rfl rfl selA selA rfl rfl hb5 (fun a' cap' => ?_)))
                all_goals refine wAssign ?_
                all_goals refine wAssign ?_
                all_goals refine ow_nil ?_)
            | (
                refine cw_region (id := 34) rfl ?_
                all_goals refine wAssign ?_
                all_goals refine ow_nil ?_)
            | (
                refine cw_region (id := 35) rfl ?_
                all_goals refine wMove ?_
                all_goals refine wMove ?_
                all_goals refine wLen ?_
                all_goals refine wLss ?_
                all_goals refine ow_nil ?_)
            | (
                refine cw_region (id := 37) rfl ?_
                all_goals refine wMove ?_
                all_goals refine wMove ?_
                all_goals (refine ow_cons ?_; first | refine kIndex ?_ | (refine kIdxR (fun g hg => ?_); subst hg) | (refine kIdxO (fun gb go hg => ?_); subst hg))
                all_goals refine wLoad ?_
                all_goals refine wLss ?_
                all_goals refine wMove ?_
                all_goals (refine ow_cons ?_; first | (refine gTf ?_; refine kMove ?_) | refine gFf ?_ | refine gNo ?_ | refine gUn ?_ | (refine gYes ?_; refine kMove ?_) | (refine gSf (fun hc => ?_) (fun hc => ?_); rotate_left; (focus (refine kMove ?_)); rotate_right) | (refine gBf (fun hc => ?_) (fun hc => ?_); rotate_left; (focus (refine kMove ?_)); rotate_right))
                all_goals (refine ow_cons ?_; first | (refine gTf ?_; refine kMove ?_) | refine gFf ?_ | refine gNo ?_ | refine gUn ?_ | (refine gYes ?_; refine kMove ?_) | (refine gSf (fun hc => ?_) (fun hc => ?_); rotate_left; (focus (refine kMove ?_)); rotate_right) | (refine gBf (fun hc => ?_) (fun hc => ?_); rotate_left; (focus (refine kMove ?_)); rotate_right))
                all_goals (refine ow_cons ?_; first | (refine gTf ?_; first | refine kIndex ?_ | (refine kIdxR (fun g hg => ?_); subst hg) | (refine kIdxO (fun gb go hg => ?_); subst hg)) | refine gFf ?_ | refine gNo ?_ | refine gUn ?_ | (refine gYes ?_; first | refine kIndex ?_ | (refine kIdxR (fun g hg => ?_); subst hg) | (refine kIdxO (fun gb go hg => ?_); subst hg)) | (refine gSf (fun hc => ?_) (fun hc => ?_); rotate_left; (focus (first | refine kIndex ?_ | (refine kIdxR (fun g hg => ?_); subst hg) | (refine kIdxO (fun gb go hg => ?_); subst hg))); rotate_right) | (refine gBf (fun hc => ?_) (fun hc => ?_); rotate_left; (focus (first | refine kIndex ?_ | (refine kIdxR (fun g hg => ?_); subst hg) | (refine kIdxO (fun gb go hg => ?_); subst hg))); rotate_right))
                all_goals (refine ow_cons ?_; first | (refine gTf ?_; refine kLoad ?_) | refine gFf ?_ | refine gNo ?_ | refine gUn ?_ | (refine gYes ?_; refine kLoad ?_) | (refine gSf (fun hc => ?_) (fun hc => ?_); rotate_left; (focus (refine kLoad ?_)); rotate_right) | (refine gBf (fun hc => ?_) (fun hc => ?_); rotate_left; (focus (refine kLoad ?_)); rotate_right))
                all_goals (refine ow_cons ?_; first | (refine gTf ?_; refine kMove ?_) | refine gFf ?_ | refine gNo ?_ | refine gUn ?_ | (refine gYes ?_; refine kMove ?_) | (refine gSf (fun hc => ?_) (fun hc => ?_); rotate_left; (focus (refine kMove ?_)); rotate_right) | (refine gBf (fun hc => ?_) (fun hc => ?_); rotate_left; (focus (refine kMove ?_)); rotate_right))
                all_goals (refine ow_cons ?_; first | (refine gTf ?_; refine kLen ?_) | refine gFf ?_ | refine gNo ?_ | refine gUn ?_ | (refine gYes ?_; refine kLen ?_) | (refine gSf (fun hc => ?_) (fun hc => ?_); rotate_left; (focus (refine kLen ?_)); rotate_right) | (refine gBf (fun hc => ?_) (fun hc => ?_); rotate_left; (focus (refine kLen ?_)); rotate_right))
                all_goals (refine ow_cons ?_; first | (refine gTf ?_; refine kGeq ?_) | refine gFf ?_ | refine gNo ?_ | refine gUn ?_ | (refine gYes ?_; refine kGeq ?_) | (refine gSf (fun hc => ?_) (fun hc => ?_); rotate_left; (focus (refine kGeq ?_)); rotate_right) | (refine gBf (fun hc => ?_) (fun hc => ?_); rotate_left; (focus (refine kGeq ?_)); rotate_right))
                all_goals refine wPick ?_
                all_goals refine wMove ?_
                all_goals (refine ow_cons ?_; first | (refine gTf ?_; refine kMove ?_) | refine gFf ?_ | refine gNo ?_ | refine gUn ?_ | (refine gYes ?_; refine kMove ?_) | (refine gSf (fun hc => ?_) (fun hc => ?_); rotate_left; (focus (refine kMove ?_)); rotate_right) | (refine gBf (fun hc => ?_) (fun hc => ?_); rotate_left; (focus (refine kMove ?_)); rotate_right))
                all_goals (refine ow_cons ?_; first | (refine gTf ?_; refine kMove ?_) | refine gFf ?_ | refine gNo ?_ | refine gUn ?_ | (refine gYes ?_; refine kMove ?_) | (refine gSf (fun hc => ?_) (fun hc => ?_); rotate_left; (focus (refine kMove ?_)); rotate_right) | (refine gBf (fun hc => ?_) (fun hc => ?_); rotate_left; (focus (refine kMove ?_)); rotate_right))
                all_goals (refine ow_cons ?_; first | (refine gTf ?_; refine kMove ?_) | refine gFf ?_ | refine gNo ?_ | refine gUn ?_ | (refine gYes ?_; refine kMove ?_) | (refine gSf (fun hc => ?_) (fun hc => ?_); rotate_left; (focus (refine kMove ?_)); rotate_right) | (refine gBf (fun hc => ?_) (fun hc => ?_); rotate_left; (focus (refine kMove ?_)); rotate_right))
                all_goals (refine ow_cons ?_; first | (refine gTf ?_; first | refine kIndex ?_ | (refine kIdxR (fun g hg => ?_); subst hg) | (refine kIdxO (fun gb go hg => ?_); subst hg)) | refine gFf ?_ | refine gNo ?_ | refine gUn ?_ | (refine gYes ?_; first | refine kIndex ?_ | (refine kIdxR (fun g hg => ?_); subst hg) | (refine kIdxO (fun gb go hg => ?_); subst hg)) | (refine gSf (fun hc => ?_) (fun hc => ?_); rotate_left; (focus (first | refine kIndex ?_ | (refine kIdxR (fun g hg => ?_); subst hg) | (refine kIdxO (fun gb go hg => ?_); subst hg))); rotate_right) | (refine gBf (fun hc => ?_) (fun hc => ?_); rotate_left; (focus (first | refine kIndex ?_ | (refine kIdxR (fun g hg => ?_); subst hg) | (refine kIdxO (fun gb go hg => ?_); subst hg))); rotate_right))
                all_goals (refine ow_cons ?_; first | (refine gTf ?_; refine kLoad ?_) | refine gFf ?_ | refine gNo ?_ | refine gUn ?_ | (refine gYes ?_; refine kLoad ?_) | (refine gSf (fun hc => ?_) (fun hc => ?_); rotate_left; (focus (refine kLoad ?_)); rotate_right) | (refine gBf (fun hc => ?_) (fun hc => ?_); rotate_left; (focus (refine kLoad ?_)); rotate_right))
                all_goals (refine ow_cons ?_; first | (refine gTf ?_; first | refine kIndex ?_ | (refine kIdxR (fun g hg => ?_); subst hg) | (refine kIdxO (fun gb go hg => ?_); subst hg)) | refine gFf ?_ | refine gNo ?_ | refine gUn ?_ | (refine gYes ?_; first | refine kIndex ?_ | (refine kIdxR (fun g hg => ?_); subst hg) | (refine kIdxO (fun gb go hg => ?_); subst hg)) | (refine gSf (fun hc => ?_) (fun hc => ?_); rotate_left; (focus (first | refine kIndex ?_ | (refine kIdxR (fun g hg => ?_); subst hg) | (refine kIdxO (fun gb go hg => ?_); subst hg))); rotate_right) | (refine gBf (fun hc => ?_) (fun hc => ?_); rotate_left; (focus (first | refine kIndex ?_ | (refine kIdxR (fun g hg => ?_); subst hg) | (refine kIdxO (fun gb go hg => ?_); subst hg))); rotate_right))
                all_goals (refine ow_cons ?_; first | (refine gTf ?_; refine kLoad ?_) | refine gFf ?_ | refine gNo ?_ | refine gUn ?_ | (refine gYes ?_; refine kLoad ?_) | (refine gSf (fun hc => ?_) (fun hc => ?_); rotate_left; (focus (refine kLoad ?_)); rotate_right) | (refine gBf (fun hc => ?_) (fun hc => ?_); rotate_left; (focus (refine kLoad ?_)); rotate_right))
                all_goals refine wPick ?_
                all_goals refine ow_nil ?_)
            | (
                refine cw_region (id := 38) rfl ?_
                all_goals refine wAssign ?_
                all_goals refine ow_nil ?_)
            | (
                refine cw_region (id := 39) rfl ?_
                all_goals refine wMove ?_
                all_goals refine wMove ?_
                all_goals refine wMove ?_
                all_goals (refine ow_cons ?_; first | refine kIndex ?_ | (refine kIdxR (fun g hg => ?_); subst hg) | (refine kIdxO (fun gb go hg => ?_); subst hg))
                all_goals refine wLoad ?_
                all_goals (refine ow_cons ?_; first | refine kIndex ?_ | (refine kIdxR (fun g hg => ?_); subst hg) | (refine kIdxO (fun gb go hg => ?_); subst hg))
                all_goals (refine ow_cons ?_; first | refine kStore ?_ | refine kStoreA ?_ | refine kStoreR ?_)
                all_goals refine ow_nil ?_)
            | (
                refine cw_region (id := 36) rfl ?_
                all_goals refine wMove ?_
                all_goals refine wAdd ?_
                all_goals refine wAssign ?_
                all_goals refine ow_nil ?_)
            | (
                refine cw_region (id := 40) rfl ?_
                all_goals refine wAssign ?_
                all_goals refine ow_nil ?_)
            | (
                refine cw_region (id := 41) rfl ?_
                all_goals refine wAssign ?_
                all_goals refine ow_nil ?_)
            | (
                refine cw_region (id := 42) rfl ?_
                all_goals refine wMove ?_
                all_goals refine wMove ?_
                all_goals refine wLen ?_
                all_goals refine wLss ?_
                all_goals refine ow_nil ?_)
            | (
                refine cw_region (id := 44) rfl ?_
                all_goals refine wMove ?_
                all_goals refine wMove ?_
                all_goals (refine ow_cons ?_; first | refine kIndex ?_ | (refine kIdxR (fun g hg => ?_); subst hg) | (refine kIdxO (fun gb go hg => ?_); subst hg))
                all_goals refine wLoad ?_
                all_goals refine wNot ?_
                all_goals refine ow_nil ?_)
            | (
                refine cw_region (id := 45) rfl ?_
                all_goals refine wMove ?_
                all_goals refine wMove ?_
                all_goals refine wMove ?_
                all_goals (refine ow_cons ?_; first | refine kIndex ?_ | (refine kIdxR (fun g hg => ?_); subst hg) | (refine kIdxO (fun gb go hg => ?_); subst hg))
                all_goals refine wLoad ?_
                all_goals refine wAdd ?_
                all_goals refine wAssign ?_
                all_goals refine ow_nil ?_)
            | (
                refine cw_region (id := 43) rfl ?_
                all_goals refine wMove ?_
                all_goals refine wAdd ?_
                all_goals refine wAssign ?_
                all_goals refine ow_nil ?_)
            | (
                refine cw_region (id := 47) rfl ?_
                all_goals refine wAssign ?_
                all_goals refine ow_nil ?_)
            | (
                refine cw_region (id := 9) rfl ?_
                all_goals refine wMove ?_
                all_goals refine wAdd ?_
                all_goals refine wAssign ?_
                all_goals refine ow_nil ?_)
            | (
                refine cw_region (id := 48) rfl ?_
                all_goals refine wAssign ?_
                all_goals refine ow_nil ?_)
            | refine cw_seq ?_
            | refine tq_n ?_
            | (refine isCW ?_; first | refine cw_region rfl ?_ | refine cw_skip ?_ | refine cw_ret ?_ | refine cw_exit ?_ | refine cw_block ?_ | refine cT ?_ | refine cF ?_ | refine cTrue ?_ | refine cFalse ?_ | refine cS (fun hc => ?_) (fun hc => ?_) | refine cB (fun hc => ?_) (fun hc => ?_))
            | refine tq_ret ?_ | refine tq_exit ?_ | refine bq_n ?_ | refine bq_ret ?_ | refine bq_same ?_ | refine bq_ne rfl ?_
            | refine ow_cons ?_ | refine ow_nil ?_
            | (refine isOpK ?_; first
              | (refine isG ?_; first | refine opk_yes rfl rfl ?_ | refine opk_no rfl rfl ?_ | refine opk_no_undef rfl rfl ?_ | refine opk_g_t rfl rfl (by omega) ?_ | refine opk_g_f rfl rfl (by omega) ?_ | refine opk_g_s rfl rfl (fun hc => ?_) (fun hc => ?_) | refine opk_g_b rfl rfl (fun hc => ?_) (fun hc => ?_))
              | refine kRd ?_
              | refine kStore ?_
              | refine kStoreA ?_
              | refine kStoreR ?_
              | (refine kIdxR (fun g hg => ?_); subst hg)
              | (refine kIdxO (fun gb go hg => ?_); subst hg)
              | refine st_alloc (fun bN => ?_)
              | refine kBox (fun bN => ?_)
              | refine kBoxA (fun bN => ?_)
              | (refine st_buildSlice rfl rfl rfl rfl (fun bN => ?_))
              | (refine st_clearR rfl selA rfl (by omega) rfl rfl rfl ?_)
              | (refine st_clearR rfl selA (by omega) (by omega) rfl rfl rfl ?_)
              | (refine OpK.heap ?_ (fun w h => tr_row_ro (a := asp) (T := 32) (cap := csp) (τ := tSp) (xs := sp) selA h); refine st_call (av := [_, _, _, _]) rfl hacked (.cons selA (.cons selA (.cons selA (.nil _)))) ?_; rintro v L' ⟨a1, c1, a2, c2, rfl, rfl⟩)
              | (refine OpK.heap ?_ (fun w h => tr_addNil 3 (tInt .i64) h); refine st_appendR (a := none) (cap := 0) (τ := tInt .i64) (xs := ([] : List Int)) (ys := ca) rfl rfl selA selA rfl rfl hb4 (fun a' cap' => ?_))
              | (refine st_appendR (τ := tInt .i64) (xs := [] ++ ca) (ys := lo) rfl rfl selA selA rfl rfl hb5 (fun a' cap' => ?_)))
            | refine hw_cons ?_ | refine hw_nil ?_
            | (refine isOpS ?_; first
              | (refine os_isG ?_; first | refine os_yes rfl rfl ?_ | refine os_no rfl rfl ?_ | refine os_no_undef rfl rfl ?_ | refine os_g_t rfl rfl (by omega) ?_ | refine os_g_f rfl rfl (by omega) ?_ | refine os_g_s rfl rfl (fun hc => ?_) (fun hc => ?_) | refine os_g_b rfl rfl (fun hc => ?_) (fun hc => ?_))
              | refine sRd ?_))
          all_goals exact nm_end (s3, a, c, l, az, cz, at_, ct, a', cap', ([] ++ ca) ++ lo) ⟨rfl, rfl, rfl, rfl, rfl, rfl, rfl, rfl, trivial⟩ ⟨by simp only; omega, by simpa using once_tells hI2 hat hao han⟩ (fun w h => pickL h (.cons selA (.cons selA (.cons selA (.cons selA (.cons selA (selL_tail [_, _, _, _] _)))))))
      · exact nm_end (sf_, a, c, l, az, cz, at_, ct, a3, c3, nf) ⟨rfl, rfl, rfl, rfl, rfl, rfl, rfl, rfl, trivial⟩ ⟨by simp only; omega, once_tells hI2 hft.1 hfo hft.2⟩ (fun w h => pickL h (.cons selA (.cons selA (.cons selA (.cons selA (.cons selA (selL_tail [_, _, _] _)))))))
      · refine nm_end (s.sent l.length (1 + size % 18446744073709551616 % 2000) true now2, a3, c3, l ++ [(1 + size % 18446744073709551616 % 2000, false)], _, _, _, _, none, 0, []) ⟨rfl, rfl, rfl, by simp only [List.map_append]; rfl, by simp only [List.map_append]; rfl, rfl, rfl, rfl, trivial⟩ ⟨by simp only [List.length_append, List.length_singleton]; omega, mid_none (once_sent hI2 hN hl1000)⟩ (fun w h => ?_)
        simp only [List.map_append]
        exact pickL (tr_addNil 3 (tInt .i64) h) (.cons selA (.cons selA (.cons selA (.cons selA (.cons selA (selL_tail [_, _, _] _))))))
    rintro ⟨s2, a2, c2, l2, az2, cz2, at2, ct2, al, cl, ns⟩ e' ⟨hl2', hM⟩
    simp only at hl2' hM
    dsimp only [upds]
    unfold stR
    have hmf1 : (l2.map (·.1)).length = l2.length := List.length_map _
    have hmf2 : (l2.map (·.2)).length = l2.length := List.length_map _
    have hwin := hM.ok.window
    have hnsl := hM.len
    repeat' (first
      | (
          refine cw_region (id := 0) rfl ?_
          all_goals refine wAssign ?_
          all_goals refine ow_nil ?_)
      | (
          refine cw_region (id := 2) rfl ?_
          all_goals refine wAssign ?_
          all_goals refine ow_nil ?_)
      | (
          refine cw_region (id := 4) rfl ?_
          all_goals refine wAssign ?_
          all_goals refine ow_nil ?_)
      | (
          refine cw_region (id := 5) rfl ?_
          all_goals refine wAssign ?_
          all_goals refine ow_nil ?_)
      | (
          refine cw_region (id := 6) rfl ?_
          all_goals refine wAssign ?_
          all_goals refine ow_nil ?_)
      | (
          refine cw_region (id := 7) rfl ?_
          all_goals refine wAssign ?_
          all_goals refine ow_nil ?_)
      | (
          refine cw_region (id := 8) rfl ?_
          all_goals refine wMove ?_
          all_goals refine wMove ?_
          all_goals refine wLen ?_
          all_goals refine wLss ?_
          all_goals refine wMove ?_
          all_goals (refine ow_cons ?_; first | (refine gTt ?_; refine kMove ?_) | refine gFt ?_ | refine gNo ?_ | refine gUn ?_ | (refine gYes ?_; refine kMove ?_) | (refine gSt (fun hc => ?_) (fun hc => ?_); (focus (refine kMove ?_))) | (refine gBt (fun hc => ?_) (fun hc => ?_); (focus (refine kMove ?_))))
          all_goals (refine ow_cons ?_; first | (refine gTt ?_; refine kLss ?_) | refine gFt ?_ | refine gNo ?_ | refine gUn ?_ | (refine gYes ?_; refine kLss ?_) | (refine gSt (fun hc => ?_) (fun hc => ?_); (focus (refine kLss ?_))) | (refine gBt (fun hc => ?_) (fun hc => ?_); (focus (refine kLss ?_))))
          all_goals refine wPick ?_
          all_goals refine ow_nil ?_)
      | (
          refine cw_region (id := 10) rfl ?_
          all_goals refine wMove ?_
          all_goals refine wMove ?_
          all_goals (refine ow_cons ?_; first | refine kIndex ?_ | (refine kIdxR (fun g hg => ?_); subst hg) | (refine kIdxO (fun gb go hg => ?_); subst hg))
          all_goals refine wLoad ?_
          all_goals (refine ow_cons ?_; refine st_alloc (fun bN => ?_))
          all_goals (refine ow_cons ?_; first | refine kStore ?_ | refine kStoreA ?_ | refine kStoreR ?_)
          all_goals refine ow_nil ?_)
      | (
          refine cw_region (id := 11) rfl ?_
          all_goals refine wMove ?_
          all_goals refine wField ?_
          all_goals refine wLoad ?_
          all_goals refine wConv ?_
          all_goals refine wRem ?_
          all_goals refine wConv ?_
          all_goals refine wAdd ?_
          all_goals refine wMin ?_
          all_goals refine wAssign ?_
          all_goals refine ow_nil ?_)
      | (
          refine cw_region (id := 12) rfl ?_
          all_goals refine wAssign ?_
          all_goals refine ow_nil ?_)
      | (
          refine cw_region (id := 13) rfl ?_
          all_goals refine wField ?_
          all_goals refine wLoad ?_
          all_goals refine ow_nil ?_)
      | (
          refine cw_region (id := 18) rfl ?_
          all_goals refine wEql ?_
          all_goals refine wAssign ?_
          all_goals refine ow_nil ?_)
      | (
          refine cw_region (id := 19) rfl ?_
          all_goals refine wAssign ?_
          all_goals refine ow_nil ?_)
      | (
          refine cw_region (id := 20) rfl ?_
          all_goals refine wAssign ?_
          all_goals refine ow_nil ?_)
      | (
          refine cw_region (id := 21) rfl ?_
          all_goals refine wMove ?_
          all_goals refine wField ?_
          all_goals refine wLoad ?_
          all_goals refine wLen ?_
          all_goals refine wLss ?_
          all_goals refine wMove ?_
          all_goals (refine ow_cons ?_; first | (refine gTt ?_; refine kMove ?_) | refine gFt ?_ | refine gNo ?_ | refine gUn ?_ | (refine gYes ?_; refine kMove ?_) | (refine gSt (fun hc => ?_) (fun hc => ?_); (focus (refine kMove ?_))) | (refine gBt (fun hc => ?_) (fun hc => ?_); (focus (refine kMove ?_))))
          all_goals (refine ow_cons ?_; first | (refine gTt ?_; refine kLss ?_) | refine gFt ?_ | refine gNo ?_ | refine gUn ?_ | (refine gYes ?_; refine kLss ?_) | (refine gSt (fun hc => ?_) (fun hc => ?_); (focus (refine kLss ?_))) | (refine gBt (fun hc => ?_) (fun hc => ?_); (focus (refine kLss ?_))))
          all_goals refine wPick ?_
          all_goals refine wMove ?_
          all_goals (refine ow_cons ?_; first | (refine gTt ?_; refine kMove ?_) | refine gFt ?_ | refine gNo ?_ | refine gUn ?_ | (refine gYes ?_; refine kMove ?_) | (refine gSt (fun hc => ?_) (fun hc => ?_); (focus (refine kMove ?_))) | (refine gBt (fun hc => ?_) (fun hc => ?_); (focus (refine kMove ?_))))
          all_goals (refine ow_cons ?_; first | (refine gTt ?_; refine kLen ?_) | refine gFt ?_ | refine gNo ?_ | refine gUn ?_ | (refine gYes ?_; refine kLen ?_) | (refine gSt (fun hc => ?_) (fun hc => ?_); (focus (refine kLen ?_))) | (refine gBt (fun hc => ?_) (fun hc => ?_); (focus (refine kLen ?_))))
          all_goals (refine ow_cons ?_; first | (refine gTt ?_; refine kGtr ?_) | refine gFt ?_ | refine gNo ?_ | refine gUn ?_ | (refine gYes ?_; refine kGtr ?_) | (refine gSt (fun hc => ?_) (fun hc => ?_); (focus (refine kGtr ?_))) | (refine gBt (fun hc => ?_) (fun hc => ?_); (focus (refine kGtr ?_))))
          all_goals refine wPick ?_
          all_goals refine ow_nil ?_)
      | (
          refine cw_draw (id := 23) 26 (by kernel_rfl) (by kernel_rfl) rfl ?_
          all_goals refine hField ?_
          all_goals refine hLoad ?_
          all_goals refine hMove ?_
          all_goals refine hIndex ?_
          all_goals refine hField ?_
          all_goals refine hLoad ?_
          all_goals refine hConv ?_
          all_goals refine hMove ?_
          all_goals refine hLen ?_
          all_goals refine hConv ?_
          all_goals refine hRem ?_
          all_goals refine hConv ?_
          all_goals refine hField ?_
          all_goals refine hLoad ?_
          all_goals refine hMove ?_
          all_goals refine hIndex ?_
          all_goals refine hField ?_
          all_goals refine hLoad ?_
          all_goals refine hConv ?_
          all_goals refine hMove ?_
          all_goals refine hLen ?_
          all_goals refine hConv ?_
          all_goals refine hRem ?_
          all_goals refine hConv ?_
          all_goals refine hAssign ?_
          all_goals refine hAssign ?_
          all_goals refine hw_nil ?_
          all_goals refine ow_nil ?_)
      | (
          refine cw_region (id := 22) rfl ?_
          all_goals refine wMove ?_
          all_goals refine wAdd ?_
          all_goals refine wAssign ?_
          all_goals refine ow_nil ?_)
      | (
          refine cw_region (id := 26) rfl ?_
          all_goals refine wMove ?_
          all_goals refine wNeq ?_
          all_goals refine ow_nil ?_)
      | (
          refine cw_region (id := 27) rfl ?_
          all_goals refine wAssign ?_
          all_goals refine ow_nil ?_)
      | (
          refine cw_region (id := 29) rfl ?_
          all_goals refine wEql ?_
          all_goals refine wAssign ?_
          all_goals refine ow_nil ?_)
      | (
          refine cw_region (id := 31) rfl ?_
          all_goals refine wMove ?_
          all_goals refine wNeq ?_
          all_goals refine ow_nil ?_)
      | (
          refine cw_region (id := 32) rfl ?_
          all_goals refine wAssign ?_
          all_goals refine ow_nil ?_)
      | (
          refine cw_region (id := 33) rfl ?_
          all_goals refine wMove ?_
          all_goals refine wAssign ?_
          all_goals refine ow_nil ?_)
      | (
          refine cw_region (id := 14) rfl ?_
          all_goals refine wField ?_
          all_goals refine wLoad ?_
          all_goals refine wConv ?_
          all_goals refine wRem ?_
          all_goals refine wConv ?_
          all_goals refine wAdd ?_
          all_goals refine wAssign ?_
          all_goals refine ow_nil ?_)
      | (
          refine cw_region (id := 16) rfl ?_
          all_goals refine wAssign ?_
          all_goals refine ow_nil ?_)
      | (
          refine cw_region (id := 34) rfl ?_
          all_goals refine wAssign ?_
          all_goals refine ow_nil ?_)
      | (
          refine cw_region (id := 35) rfl ?_
          all_goals refine wMove ?_
          all_goals refine wMove ?_
          all_goals refine wLen ?_
          all_goals refine wLss ?_
          all_goals refine ow_nil ?_)
      | (
          refine cw_region (id := 37) rfl ?_
          all_goals refine wMove ?_
          all_goals refine wMove ?_
          all_goals (refine ow_cons ?_; first | refine kIndex ?_ | (refine kIdxR (fun g hg => ?_); subst hg) | (refine kIdxO (fun gb go hg => ?_); subst hg))
          all_goals refine wLoad ?_
          all_goals refine wLss ?_
          all_goals refine wMove ?_
          all_goals (refine ow_cons ?_; first | (refine gTf ?_; refine kMove ?_) | refine gFf ?_ | refine gNo ?_ | refine gUn ?_ | (refine gYes ?_; refine kMove ?_) | (refine gSf (fun hc => ?_) (fun hc => ?_); rotate_left; (focus (refine kMove ?_)); rotate_right) | (refine gBf (fun hc => ?_) (fun hc => ?_); rotate_left; (focus (refine kMove ?_)); rotate_right))
          all_goals (refine ow_cons ?_; first | (refine gTf ?_; refine kMove ?_) | refine gFf ?_ | refine gNo ?_ | refine gUn ?_ | (refine gYes ?_; refine kMove ?_) | (refine gSf (fun hc => ?_) (fun hc => ?_); rotate_left; (focus (refine kMove ?_)); rotate_right) | (refine gBf (fun hc => ?_) (fun hc => ?_); rotate_left; (focus (refine kMove ?_)); rotate_right))
          all_goals (refine ow_cons ?_; first | (refine gTf ?_; first | refine kIndex ?_ | (refine kIdxR (fun g hg => ?_); subst hg) | (refine kIdxO (fun gb go hg => ?_); subst hg)) | refine gFf ?_ | refine gNo ?_ | refine gUn ?_ | (refine gYes ?_; first | refine kIndex ?_ | (refine kIdxR (fun g hg => ?_); subst hg) | (refine kIdxO (fun gb go hg => ?_); subst hg)) | (refine gSf (fun hc => ?_) (fun hc => ?_); rotate_left; (focus (first | refine kIndex ?_ | (refine kIdxR (fun g hg => ?_); subst hg) | (refine kIdxO (fun gb go hg => ?_); subst hg))); rotate_right) | (refine gBf (fun hc => ?_) (fun hc => ?_); rotate_left; (focus (first | refine kIndex ?_ | (refine kIdxR (fun g hg => ?_); subst hg) | (refine kIdxO (fun gb go hg => ?_); subst hg))); rotate_right))
          all_goals (refine ow_cons ?_; first | (refine gTf ?_; refine kLoad ?_) | refine gFf ?_ | refine gNo ?_ | refine gUn ?_ | (refine gYes ?_; refine kLoad ?_) | (refine gSf (fun hc => ?_) (fun hc => ?_); rotate_left; (focus (refine kLoad ?_)); rotate_right) | (refine gBf (fun hc => ?_) (fun hc => ?_); rotate_left; (focus (refine kLoad ?_)); rotate_right))
          all_goals (refine ow_cons ?_; first | (refine gTf ?_; refine kMove ?_) | refine gFf ?_ | refine gNo ?_ | refine gUn ?_ | (refine gYes ?_; refine kMove ?_) | (refine gSf (fun hc => ?_) (fun hc => ?_); rotate_left; (focus (refine kMove ?_)); rotate_right) | (refine gBf (fun hc => ?_) (fun hc => ?_); rotate_left; (focus (refine kMove ?_)); rotate_right))
          all_goals (refine ow_cons ?_; first | (refine gTf ?_; refine kLen ?_) | refine gFf ?_ | refine gNo ?_ | refine gUn ?_ | (refine gYes ?_; refine kLen ?_) | (refine gSf (fun hc => ?_) (fun hc => ?_); rotate_left; (focus (refine kLen ?_)); rotate_right) | (refine gBf (fun hc => ?_) (fun hc => ?_); rotate_left; (focus (refine kLen ?_)); rotate_right))
          all_goals (refine ow_cons ?_; first | (refine gTf ?_; refine kGeq ?_) | refine gFf ?_ | refine gNo ?_ | refine gUn ?_ | (refine gYes ?_; refine kGeq ?_) | (refine gSf (fun hc => ?_) (fun hc => ?_); rotate_left; (focus (refine kGeq ?_)); rotate_right) | (refine gBf (fun hc => ?_) (fun hc => ?_); rotate_left; (focus (refine kGeq ?_)); rotate_right))
          all_goals refine wPick ?_
          all_goals refine wMove ?_
          all_goals (refine ow_cons ?_; first | (refine gTf ?_; refine kMove ?_) | refine gFf ?_ | refine gNo ?_ | refine gUn ?_ | (refine gYes ?_; refine kMove ?_) | (refine gSf (fun hc => ?_) (fun hc => ?_); rotate_left; (focus (refine kMove ?_)); rotate_right) | (refine gBf (fun hc => ?_) (fun hc => ?_); rotate_left; (focus (refine kMove ?_)); rotate_right))
          all_goals (refine ow_cons ?_; first | (refine gTf ?_; refine kMove ?_) | refine gFf ?_ | refine gNo ?_ | refine gUn ?_ | (refine gYes ?_; refine kMove ?_) | (refine gSf (fun hc => ?_) (fun hc => ?_); rotate_left; (focus (refine kMove ?_)); rotate_right) | (refine gBf (fun hc => ?_) (fun hc => ?_); rotate_left; (focus (refine kMove ?_)); rotate_right))
          all_goals (refine ow_cons ?_; first | (refine gTf ?_; refine kMove ?_) | refine gFf ?_ | refine gNo ?_ | refine gUn ?_ | (refine gYes ?_; refine kMove ?_) | (refine gSf (fun hc => ?_) (fun hc => ?_); rotate_left; (focus (refine kMove ?_)); rotate_right) | (refine gBf (fun hc => ?_) (fun hc => ?_); rotate_left; (focus (refine kMove ?_)); rotate_right))
          all_goals (refine ow_cons ?_; first | (refine gTf ?_; first | refine kIndex ?_ | (refine kIdxR (fun g hg => ?_); subst hg) | (refine kIdxO (fun gb go hg => ?_); subst hg)) | refine gFf ?_ | refine gNo ?_ | refine gUn ?_ | (refine gYes ?_; first | refine kIndex ?_ | (refine kIdxR (fun g hg => ?_); subst hg) | (refine kIdxO (fun gb go hg => ?_); subst hg)) | (refine gSf (fun hc => ?_) (fun hc => ?_); rotate_left; (focus (first | refine kIndex ?_ | (refine kIdxR (fun g hg => ?_); subst hg) | (refine kIdxO (fun gb go hg => ?_); subst hg))); rotate_right) | (refine gBf (fun hc => ?_) (fun hc => ?_); rotate_left; (focus (first | refine kIndex ?_ | (refine kIdxR (fun g hg => ?_); subst hg) | (refine kIdxO (fun gb go hg => ?_); subst hg))); rotate_right))
          all_goals (refine ow_cons ?_; first | (refine gTf ?_; refine kLoad ?_) | refine gFf ?_ | refine gNo ?_ | refine gUn ?_ | (refine gYes ?_; refine kLoad ?_) | (refine gSf (fun hc => ?_) (fun hc => ?_); rotate_left; (focus (refine kLoad ?_)); rotate_right) | (refine gBf (fun hc => ?_) (fun hc => ?_); rotate_left; (focus (refine kLoad ?_)); rotate_right))
          all_goals (refine ow_cons ?_; first | (refine gTf ?_; first | refine kIndex ?_ | (refine kIdxR (fun g hg => ?_); subst hg) | (refine kIdxO (fun gb go hg => ?_); subst hg)) | refine gFf ?_ | refine gNo ?_ | refine gUn ?_ | (refine gYes ?_; first | refine kIndex ?_ | (refine kIdxR (fun g hg => ?_); subst hg) | (refine kIdxO (fun gb go hg => ?_); subst hg)) | (refine gSf (fun hc => ?_) (fun hc => ?_); rotate_left; (focus (first | refine kIndex ?_ | (refine kIdxR (fun g hg => ?_); subst hg) | (refine kIdxO (fun gb go hg => ?_); subst hg))); rotate_right) | (refine gBf (fun hc => ?_) (fun hc => ?_); rotate_left; (focus (first | refine kIndex ?_ | (refine kIdxR (fun g hg => ?_); subst hg) | (refine kIdxO (fun gb go hg => ?_); subst hg))); rotate_right))
          all_goals (refine ow_cons ?_; first | (refine gTf ?_; refine kLoad ?_) | refine gFf ?_ | refine gNo ?_ | refine gUn ?_ | (refine gYes ?_; refine kLoad ?_) | (refine gSf (fun hc => ?_) (fun hc => ?_); rotate_left; (focus (refine kLoad ?_)); rotate_right) | (refine gBf (fun hc => ?_) (fun hc => ?_); rotate_left; (focus (refine kLoad ?_)); rotate_right))
          all_goals refine wPick ?_
          all_goals refine ow_nil ?_)
      | (
          refine cw_region (id := 38) rfl ?_
          all_goals refine wAssign ?_
          all_goals refine ow_nil ?_)
      | (
          refine cw_region (id := 39) rfl ?_
          all_goals refine wMove ?_
          all_goals refine wMove ?_
          all_goals refine wMove ?_
          all_goals (refine ow_cons ?_; first | refine kIndex ?_ | (refine kIdxR (fun g hg => ?_); subst hg) | (refine kIdxO (fun gb go hg => ?_); subst hg))
          all_goals refine wLoad ?_
          all_goals (refine ow_cons ?_; first | refine kIndex ?_ | (refine kIdxR (fun g hg => ?_); subst hg) | (refine kIdxO (fun gb go hg => ?_); subst hg))
          all_goals (refine ow_cons ?_; first | refine kStore ?_ | refine kStoreA ?_ | refine kStoreR ?_)
          all_goals refine ow_nil ?_)
      | (
          refine cw_region (id := 36) rfl ?_
          all_goals refine wMove ?_
          all_goals refine wAdd ?_
          all_goals refine wAssign ?_
          all_goals refine ow_nil ?_)
      | (
          refine cw_region (id := 40) rfl ?_
          all_goals refine wAssign ?_
          all_goals refine ow_nil ?_)
      | (
          refine cw_region (id := 41) rfl ?_
          all_goals refine wAssign ?_
          all_goals refine ow_nil ?_)
      | (
          refine cw_region (id := 42) rfl ?_
          all_goals refine wMove ?_
          all_goals refine wMove ?_
          all_goals refine wLen ?_
          all_goals refine wLss ?_
          all_goals refine ow_nil ?_)
      | (
          refine cw_region (id := 44) rfl ?_
          all_goals refine wMove ?_
          all_goals refine wMove ?_
          all_goals (refine ow_cons ?_; first | refine kIndex ?_ | (refine kIdxR (fun g hg => ?_); subst hg) | (refine kIdxO (fun gb go hg => ?_); subst hg))
          all_goals refine wLoad ?_
          all_goals refine wNot ?_
          all_goals refine ow_nil ?_)
      | (
          refine cw_region (id := 45) rfl ?_
          all_goals refine wMove ?_
          all_goals refine wMove ?_
          all_goals refine wMove ?_
          all_goals (refine ow_cons ?_; first | refine kIndex ?_ | (refine kIdxR (fun g hg => ?_); subst hg) | (refine kIdxO (fun gb go hg => ?_); subst hg))
          all_goals refine wLoad ?_
          all_goals refine wAdd ?_
          all_goals refine wAssign ?_
          all_goals refine ow_nil ?_)
      | (
          refine cw_region (id := 43) rfl ?_
          all_goals refine wMove ?_
          all_goals refine wAdd ?_
          all_goals refine wAssign ?_
          all_goals refine ow_nil ?_)
      | (
          refine cw_region (id := 47) rfl ?_
          all_goals refine wAssign ?_
          all_goals refine ow_nil ?_)
      | (
          refine cw_region (id := 9) rfl ?_
          all_goals refine wMove ?_
          all_goals refine wAdd ?_
          all_goals refine wAssign ?_
          all_goals refine ow_nil ?_)
      | (
          refine cw_region (id := 48) rfl ?_
          all_goals refine wAssign ?_
          all_goals refine ow_nil ?_)
      | refine cw_seq ?_
      | refine tq_n ?_
      | (refine isCW ?_; first | refine cw_region rfl ?_ | refine cw_skip ?_ | refine cw_ret ?_ | refine cw_exit ?_ | refine cw_block ?_ | refine cT ?_ | refine cF ?_ | refine cTrue ?_ | refine cFalse ?_ | refine cS (fun hc => ?_) (fun hc => ?_) | refine cB (fun hc => ?_) (fun hc => ?_))
      | refine tq_ret ?_ | refine tq_exit ?_ | refine bq_n ?_ | refine bq_ret ?_ | refine bq_same ?_ | refine bq_ne rfl ?_
      | refine ow_cons ?_ | refine ow_nil ?_
      | (refine isOpK ?_; first
        | (refine isG ?_; first | refine opk_yes rfl rfl ?_ | refine opk_no rfl rfl ?_ | refine opk_no_undef rfl rfl ?_ | refine opk_g_t rfl rfl (by omega) ?_ | refine opk_g_f rfl rfl (by omega) ?_ | refine opk_g_s rfl rfl (fun hc => ?_) (fun hc => ?_) | refine opk_g_b rfl rfl (fun hc => ?_) (fun hc => ?_))
        | refine kRd ?_
        | refine kStore ?_
        | refine kStoreA ?_
        | refine kStoreR ?_
        | (refine kIdxR (fun g hg => ?_); subst hg)
        | (refine kIdxO (fun gb go hg => ?_); subst hg)
        | refine st_alloc (fun bN => ?_)
        | refine kBox (fun bN => ?_)
        | refine kBoxA (fun bN => ?_)
        | (refine st_buildSlice rfl rfl rfl rfl (fun bN => ?_))
        | (refine st_clearR rfl selA rfl (by omega) rfl rfl rfl ?_)
        | (refine st_clearR rfl selA (by omega) (by omega) rfl rfl rfl ?_))
      | refine hw_cons ?_ | refine hw_nil ?_
      | (refine isOpS ?_; first
        | (refine os_isG ?_; first | refine os_yes rfl rfl ?_ | refine os_no rfl rfl ?_ | refine os_no_undef rfl rfl ?_ | refine os_g_t rfl rfl (by omega) ?_ | refine os_g_f rfl rfl (by omega) ?_ | refine os_g_s rfl rfl (fun hc => ?_) (fun hc => ?_) | refine os_g_b rfl rfl (fun hc => ?_) (fun hc => ?_))
        | refine sRd ?_))
    refine cw_rounds (S := fun g : Nat × List (Int × Bool) => [(0, .slice (some ⟨gb, go, none⟩) evs.length cap), (2, .bool false), (3, ptr b), (4, .slice (oad az2) (l2.map (·.1)).length cz2), (5, .slice (oad at2) (l2.map (·.2)).length ct2), (6, i6 now2), (7, .int .i64 (i : Nat)), (9, .slice (oad al) ns.length cl), (21, .int .i64 (g.1 : Nat))])
      (H := fun g => [blk b 63 (encS s2 a2 c2), row a2 66 c2 tPk s2.waits, row az2 3 cz2 (tInt .i64) (l2.map (·.1)), row at2 4 ct2 tBool (g.2.map (·.2)), row al 3 cl (tInt .i64) ns] ++ evsH (some ⟨gb, go, none⟩) evs)
      (V := fun g => g.1 ≤ ns.length ∧ TellI l2 g.2 ns g.1) (μ := fun g => ns.length - g.1) (0, l2) ⟨rfl, rfl, rfl, rfl, rfl, rfl, rfl, rfl, rfl, trivial⟩ ⟨Nat.zero_le _, tell_0 _ _⟩ (fun w h => pickL h (.cons selA (.cons selA (.cons selA (.cons selA (.cons selA (selL_all _))))))) ?_
    rintro ⟨j, lj⟩ e' ⟨hj, hT⟩
    simp only at hj hT
    dsimp only [upds]
    have hlj : lj.length = l2.length := by have := congrArg List.length hT.fst; simpa using this
    have hlj2 : (lj.map (·.2)).length = lj.length := List.length_map _
    rcases Nat.lt_or_ge j ns.length with hlt | hge
    · obtain ⟨n, hnj⟩ : ∃ n, ns[j]? = some n := ⟨_, List.getElem?_eq_getElem hlt⟩
      obtain ⟨k, z, rfl, hlk, hT2⟩ := tell_step hM hT hnj
      have hkl : k < lj.length := (List.getElem?_eq_some_iff.1 hlk).1
      have hk2 : (lj.map (·.2))[k]? = some false := by rw [List.getElem?_map, hlk]; rfl
      repeat' (first
        | (
            refine cw_region (id := 0) rfl ?_
            all_goals refine wAssign ?_
            all_goals refine ow_nil ?_)
        | (
            refine cw_region (id := 2) rfl ?_
            all_goals refine wAssign ?_
            all_goals refine ow_nil ?_)
        | (
            refine cw_region (id := 4) rfl ?_
            all_goals refine wAssign ?_
            all_goals refine ow_nil ?_)
        | (
            refine cw_region (id := 5) rfl ?_
            all_goals refine wAssign ?_
            all_goals refine ow_nil ?_)
        | (
            refine cw_region (id := 6) rfl ?_
            all_goals refine wAssign ?_
            all_goals refine ow_nil ?_)
        | (
            refine cw_region (id := 7) rfl ?_
            all_goals refine wAssign ?_
            all_goals refine ow_nil ?_)
        | (
            refine cw_region (id := 8) rfl ?_
            all_goals refine wMove ?_
            all_goals refine wMove ?_
            all_goals refine wLen ?_
            all_goals refine wLss ?_
            all_goals refine wMove ?_
            all_goals (refine ow_cons ?_; first | (refine gTt ?_; refine kMove ?_) | refine gFt ?_ | refine gNo ?_ | refine gUn ?_ | (refine gYes ?_; refine kMove ?_) | (refine gSt (fun hc => ?_) (fun hc => ?_); (focus (refine kMove ?_))) | (refine gBt (fun hc => ?_) (fun hc => ?_); (focus (refine kMove ?_))))
            all_goals (refine ow_cons ?_; first | (refine gTt ?_; refine kLss ?_) | refine gFt ?_ | refine gNo ?_ | refine gUn ?_ | (refine gYes ?_; refine kLss ?_) | (refine gSt (fun hc => ?_) (fun hc => ?_); (focus (refine kLss ?_))) | (refine gBt (fun hc => ?_) (fun hc => ?_); (focus (refine kLss ?_))))
            all_goals refine wPick ?_
            all_goals refine ow_nil ?_)
        | (
            refine cw_region (id := 10) rfl ?_
            all_goals refine wMove ?_
            all_goals refine wMove ?_
            all_goals (refine ow_cons ?_; first | refine kIndex ?_ | (refine kIdxR (fun g hg => ?_); subst hg) | (refine kIdxO (fun gb go hg => ?_); subst hg))
            all_goals refine wLoad ?_
            all_goals (refine ow_cons ?_; refine st_alloc (fun bN => ?_))
            all_goals (refine ow_cons ?_; first | (refine st_storeR (τ := tBool) true rfl rfl rfl selA rfl (by omega) ?_) | refine kStore ?_ | refine kStoreA ?_ | refine kStoreR ?_)
            all_goals refine ow_nil ?_)
        | (
            refine cw_region (id := 11) rfl ?_
            all_goals refine wMove ?_
            all_goals refine wField ?_
            all_goals refine wLoad ?_
            all_goals refine wConv ?_
            all_goals refine wRem ?_
            all_goals refine wConv ?_
            all_goals refine wAdd ?_
            all_goals refine wMin ?_
            all_goals refine wAssign ?_
            all_goals refine ow_nil ?_)
        | (
            refine cw_region (id := 12) rfl ?_
            all_goals refine wAssign ?_
            all_goals refine ow_nil ?_)
        | (
            refine cw_region (id := 13) rfl ?_
            all_goals refine wField ?_
            all_goals refine wLoad ?_
            all_goals refine ow_nil ?_)
        | (
            refine cw_region (id := 18) rfl ?_
            all_goals refine wEql ?_
            all_goals refine wAssign ?_
            all_goals refine ow_nil ?_)
        | (
            refine cw_region (id := 19) rfl ?_
            all_goals refine wAssign ?_
            all_goals refine ow_nil ?_)
        | (
            refine cw_region (id := 20) rfl ?_
            all_goals refine wAssign ?_
            all_goals refine ow_nil ?_)
        | (
            refine cw_region (id := 21) rfl ?_
            all_goals refine wMove ?_
            all_goals refine wField ?_
            all_goals refine wLoad ?_
            all_goals refine wLen ?_
            all_goals refine wLss ?_
            all_goals refine wMove ?_
            all_goals (refine ow_cons ?_; first | (refine gTt ?_; refine kMove ?_) | refine gFt ?_ | refine gNo ?_ | refine gUn ?_ | (refine gYes ?_; refine kMove ?_) | (refine gSt (fun hc => ?_) (fun hc => ?_); (focus (refine kMove ?_))) | (refine gBt (fun hc => ?_) (fun hc => ?_); (focus (refine kMove ?_))))
            all_goals (refine ow_cons ?_; first | (refine gTt ?_; refine kLss ?_) | refine gFt ?_ | refine gNo ?_ | refine gUn ?_ | (refine gYes ?_; refine kLss ?_) | (refine gSt (fun hc => ?_) (fun hc => ?_); (focus (refine kLss ?_))) | (refine gBt (fun hc => ?_) (fun hc => ?_); (focus (refine kLss ?_))))
            all_goals refine wPick ?_
            all_goals refine wMove ?_
            all_goals (refine ow_cons ?_; first | (refine gTt ?_; refine kMove ?_) | refine gFt ?_ | refine gNo ?_ | refine gUn ?_ | (refine gYes ?_; refine kMove ?_) | (refine gSt (fun hc => ?_) (fun hc => ?_); (focus (refine kMove ?_))) | (refine gBt (fun hc => ?_) (fun hc => ?_); (focus (refine kMove ?_))))
            all_goals (refine ow_cons ?_; first | (refine gTt ?_; refine kLen ?_) | refine gFt ?_ | refine gNo ?_ | refine gUn ?_ | (refine gYes ?_; refine kLen ?_) | (refine gSt (fun hc => ?_) (fun hc => ?_); (focus (refine kLen ?_))) | (refine gBt (fun hc => ?_) (fun hc => ?_); (focus (refine kLen ?_))))
            all_goals (refine ow_cons ?_; first | (refine gTt ?_; refine kGtr ?_) | refine gFt ?_ | refine gNo ?_ | refine gUn ?_ | (refine gYes ?_; refine kGtr ?_) | (refine gSt (fun hc => ?_) (fun hc => ?_); (focus (refine kGtr ?_))) | (refine gBt (fun hc => ?_) (fun hc => ?_); (focus (refine kGtr ?_))))
            all_goals refine wPick ?_
            all_goals refine ow_nil ?_)
        | (
            refine cw_draw (id := 23) 26 (by kernel_rfl) (by kernel_rfl) rfl ?_
            all_goals refine hField ?_
            all_goals refine hLoad ?_
            all_goals refine hMove ?_
            all_goals refine hIndex ?_
            all_goals refine hField ?_
            all_goals refine hLoad ?_
            all_goals refine hConv ?_
            all_goals refine hMove ?_
            all_goals refine hLen ?_
            all_goals refine hConv ?_
            all_goals refine hRem ?_
            all_goals refine hConv ?_
            all_goals refine hField ?_
            all_goals refine hLoad ?_
            all_goals refine hMove ?_
            all_goals refine hIndex ?_
            all_goals refine hField ?_
            all_goals refine hLoad ?_
            all_goals refine hConv ?_
            all_goals refine hMove ?_
            all_goals refine hLen ?_
            all_goals refine hConv ?_
            all_goals refine hRem ?_
            all_goals refine hConv ?_
            all_goals refine hAssign ?_
            all_goals refine hAssign ?_
            all_goals refine hw_nil ?_
            all_goals refine ow_nil ?_)
        | (
            refine cw_region (id := 22) rfl ?_
            all_goals refine wMove ?_
            all_goals refine wAdd ?_
            all_goals refine wAssign ?_
            all_goals refine ow_nil ?_)
        | (
            refine cw_region (id := 26) rfl ?_
            all_goals refine wMove ?_
            all_goals refine wNeq ?_
            all_goals refine ow_nil ?_)
        | (
            refine cw_region (id := 27) rfl ?_
            all_goals refine wAssign ?_
            all_goals refine ow_nil ?_)
        | (
            refine cw_region (id := 29) rfl ?_
            all_goals refine wEql ?_
            all_goals refine wAssign ?_
            all_goals refine ow_nil ?_)
        | (
            refine cw_region (id := 31) rfl ?_
            all_goals refine wMove ?_
            all_goals refine wNeq ?_
            all_goals refine ow_nil ?_)
        | (
            refine cw_region (id := 32) rfl ?_
            all_goals refine wAssign ?_
            all_goals refine ow_nil ?_)
        | (
            refine cw_region (id := 33) rfl ?_
            all_goals refine wMove ?_
            all_goals refine wAssign ?_
            all_goals refine ow_nil ?_)
        | (
            refine cw_region (id := 14) rfl ?_
            all_goals refine wField ?_
            all_goals refine wLoad ?_
            all_goals refine wConv ?_
            all_goals refine wRem ?_
            all_goals refine wConv ?_
            all_goals refine wAdd ?_
            all_goals refine wAssign ?_
            all_goals refine ow_nil ?_)
        | (
            refine cw_region (id := 16) rfl ?_
            all_goals refine wAssign ?_
            all_goals refine ow_nil ?_)
        | (
            refine cw_region (id := 34) rfl ?_
            all_goals refine wAssign ?_
            all_goals refine ow_nil ?_)
        | (
            refine cw_region (id := 35) rfl ?_
            all_goals refine wMove ?_
            all_goals refine wMove ?_
            all_goals refine wLen ?_
            all_goals refine wLss ?_
            all_goals refine ow_nil ?_)
        | (
            refine cw_region (id := 37) rfl ?_
            all_goals refine wMove ?_
            all_goals refine wMove ?_
            all_goals (refine ow_cons ?_; first | refine kIndex ?_ | (refine kIdxR (fun g hg => ?_); subst hg) | (refine kIdxO (fun gb go hg => ?_); subst hg))
            all_goals refine wLoad ?_
            all_goals refine wLss ?_
            all_goals refine wMove ?_
            all_goals (refine ow_cons ?_; first | (refine gTf ?_; refine kMove ?_) | refine gFf ?_ | refine gNo ?_ | refine gUn ?_ | (refine gYes ?_; refine kMove ?_) | (refine gSf (fun hc => ?_) (fun hc => ?_); rotate_left; (focus (refine kMove ?_)); rotate_right) | (refine gBf (fun hc => ?_) (fun hc => ?_); rotate_left; (focus (refine kMove ?_)); rotate_right))
            all_goals (refine ow_cons ?_; first | (refine gTf ?_; refine kMove ?_) | refine gFf ?_ | refine gNo ?_ | refine gUn ?_ | (refine gYes ?_; refine kMove ?_) | (refine gSf (fun hc => ?_) (fun hc => ?_); rotate_left; (focus (refine kMove ?_)); rotate_right) | (refine gBf (fun hc => ?_) (fun hc => ?_); rotate_left; (focus (refine kMove ?_)); rotate_right))
            all_goals (refine ow_cons ?_; first | (refine gTf ?_; first | refine kIndex ?_ | (refine kIdxR (fun g hg => ?_); subst hg) | (refine kIdxO (fun gb go hg => ?_); subst hg)) | refine gFf ?_ | refine gNo ?_ | refine gUn ?_ | (refine gYes ?_; first | refine kIndex ?_ | (refine kIdxR (fun g hg => ?_); subst hg) | (refine kIdxO (fun gb go hg => ?_); subst hg)) | (refine gSf (fun hc => ?_) (fun hc => ?_); rotate_left; (focus (first | refine kIndex ?_ | (refine kIdxR (fun g hg => ?_); subst hg) | (refine kIdxO (fun gb go hg => ?_); subst hg))); rotate_right) | (refine gBf (fun hc => ?_) (fun hc => ?_); rotate_left; (focus (first | refine kIndex ?_ | (refine kIdxR (fun g hg => ?_); subst hg) | (refine kIdxO (fun gb go hg => ?_); subst hg))); rotate_right))
            all_goals (refine ow_cons ?_; first | (refine gTf ?_; refine kLoad ?_) | refine gFf ?_ | refine gNo ?_ | refine gUn ?_ | (refine gYes ?_; refine kLoad ?_) | (refine gSf (fun hc => ?_) (fun hc => ?_); rotate_left; (focus (refine kLoad ?_)); rotate_right) | (refine gBf (fun hc => ?_) (fun hc => ?_); rotate_left; (focus (refine kLoad ?_)); rotate_right))
            all_goals (refine ow_cons ?_; first | (refine gTf ?_; refine kMove ?_) | refine gFf ?_ | refine gNo ?_ | refine gUn ?_ | (refine gYes ?_; refine kMove ?_) | (refine gSf (fun hc => ?_) (fun hc => ?_); rotate_left; (focus (refine kMove ?_)); rotate_right) | (refine gBf (fun hc => ?_) (fun hc => ?_); rotate_left; (focus (refine kMove ?_)); rotate_right))
            all_goals (refine ow_cons ?_; first | (refine gTf ?_; refine kLen ?_) | refine gFf ?_ | refine gNo ?_ | refine gUn ?_ | (refine gYes ?_; refine kLen ?_) | (refine gSf (fun hc => ?_) (fun hc => ?_); rotate_left; (focus (refine kLen ?_)); rotate_right) | (refine gBf (fun hc => ?_) (fun hc => ?_); rotate_left; (focus (refine kLen ?_)); rotate_right))
            all_goals (refine ow_cons ?_; first | (refine gTf ?_; refine kGeq ?_) | refine gFf ?_ | refine gNo ?_ | refine gUn ?_ | (refine gYes ?_; refine kGeq ?_) | (refine gSf (fun hc => ?_) (fun hc => ?_); rotate_left; (focus (refine kGeq ?_)); rotate_right) | (refine gBf (fun hc => ?_) (fun hc => ?_); rotate_left; (focus (refine kGeq ?_)); rotate_right))
            all_goals refine wPick ?_
            all_goals refine wMove ?_
            all_goals (refine ow_cons ?_; first | (refine gTf ?_; refine kMove ?_) | refine gFf ?_ | refine gNo ?_ | refine gUn ?_ | (refine gYes ?_; refine kMove ?_) | (refine gSf (fun hc => ?_) (fun hc => ?_); rotate_left; (focus (refine kMove ?_)); rotate_right) | (refine gBf (fun hc => ?_) (fun hc => ?_); rotate_left; (focus (refine kMove ?_)); rotate_right))
            all_goals (refine ow_cons ?_; first | (refine gTf ?_; refine kMove ?_) | refine gFf ?_ | refine gNo ?_ | refine gUn ?_ | (refine gYes ?_; refine kMove ?_) | (refine gSf (fun hc => ?_) (fun hc => ?_); rotate_left; (focus (refine kMove ?_)); rotate_right) | (refine gBf (fun hc => ?_) (fun hc => ?_); rotate_left; (focus (refine kMove ?_)); rotate_right))
            all_goals (refine ow_cons ?_; first | (refine gTf ?_; refine kMove ?_) | refine gFf ?_ | refine gNo ?_ | refine gUn ?_ | (refine gYes ?_; refine kMove ?_) | (refine gSf (fun hc => ?_) (fun hc => ?_); rotate_left; (focus (refine kMove ?_)); rotate_right) | (refine gBf (fun hc => ?_) (fun hc => ?_); rotate_left; (focus (refine kMove ?_)); rotate_right))
            all_goals (refine ow_cons ?_; first | (refine gTf ?_; first | refine kIndex ?_ | (refine kIdxR (fun g hg => ?_); subst hg) | (refine kIdxO (fun gb go hg => ?_); subst hg)) | refine gFf ?_ | refine gNo ?_ | refine gUn ?_ | (refine gYes ?_; first | refine kIndex ?_ | (refine kIdxR (fun g hg => ?_); subst hg) | (refine kIdxO (fun gb go hg => ?_); subst hg)) | (refine gSf (fun hc => ?_) (fun hc => ?_); rotate_left; (focus (first | refine kIndex ?_ | (refine kIdxR (fun g hg => ?_); subst hg) | (refine kIdxO (fun gb go hg => ?_); subst hg))); rotate_right) | (refine gBf (fun hc => ?_) (fun hc => ?_); rotate_left; (focus (first | refine kIndex ?_ | (refine kIdxR (fun g hg => ?_); subst hg) | (refine kIdxO (fun gb go hg => ?_); subst hg))); rotate_right))
            all_goals (refine ow_cons ?_; first | (refine gTf ?_; refine kLoad ?_) | refine gFf ?_ | refine gNo ?_ | refine gUn ?_ | (refine gYes ?_; refine kLoad ?_) | (refine gSf (fun hc => ?_) (fun hc => ?_); rotate_left; (focus (refine kLoad ?_)); rotate_right) | (refine gBf (fun hc => ?_) (fun hc => ?_); rotate_left; (focus (refine kLoad ?_)); rotate_right))
            all_goals (refine ow_cons ?_; first | (refine gTf ?_; first | refine kIndex ?_ | (refine kIdxR (fun g hg => ?_); subst hg) | (refine kIdxO (fun gb go hg => ?_); subst hg)) | refine gFf ?_ | refine gNo ?_ | refine gUn ?_ | (refine gYes ?_; first | refine kIndex ?_ | (refine kIdxR (fun g hg => ?_); subst hg) | (refine kIdxO (fun gb go hg => ?_); subst hg)) | (refine gSf (fun hc => ?_) (fun hc => ?_); rotate_left; (focus (first | refine kIndex ?_ | (refine kIdxR (fun g hg => ?_); subst hg) | (refine kIdxO (fun gb go hg => ?_); subst hg))); rotate_right) | (refine gBf (fun hc => ?_) (fun hc => ?_); rotate_left; (focus (first | refine kIndex ?_ | (refine kIdxR (fun g hg => ?_); subst hg) | (refine kIdxO (fun gb go hg => ?_); subst hg))); rotate_right))
            all_goals (refine ow_cons ?_; first | (refine gTf ?_; refine kLoad ?_) | refine gFf ?_ | refine gNo ?_ | refine gUn ?_ | (refine gYes ?_; refine kLoad ?_) | (refine gSf (fun hc => ?_) (fun hc => ?_); rotate_left; (focus (refine kLoad ?_)); rotate_right) | (refine gBf (fun hc => ?_) (fun hc => ?_); rotate_left; (focus (refine kLoad ?_)); rotate_right))
            all_goals refine wPick ?_
            all_goals refine ow_nil ?_)
        | (
            refine cw_region (id := 38) rfl ?_
            all_goals refine wAssign ?_
            all_goals refine ow_nil ?_)
        | (
            refine cw_region (id := 39) rfl ?_
            all_goals refine wMove ?_
            all_goals refine wMove ?_
            all_goals refine wMove ?_
            all_goals (refine ow_cons ?_; first | refine kIndex ?_ | (refine kIdxR (fun g hg => ?_); subst hg) | (refine kIdxO (fun gb go hg => ?_); subst hg))
            all_goals refine wLoad ?_
            all_goals (refine ow_cons ?_; first | refine kIndex ?_ | (refine kIdxR (fun g hg => ?_); subst hg) | (refine kIdxO (fun gb go hg => ?_); subst hg))
            all_goals (refine ow_cons ?_; first | (refine st_storeR (τ := tBool) true rfl rfl rfl selA rfl (by omega) ?_) | refine kStore ?_ | refine kStoreA ?_ | refine kStoreR ?_)
            all_goals refine ow_nil ?_)
        | (
            refine cw_region (id := 36) rfl ?_
            all_goals refine wMove ?_
            all_goals refine wAdd ?_
            all_goals refine wAssign ?_
            all_goals refine ow_nil ?_)
        | (
            refine cw_region (id := 40) rfl ?_
            all_goals refine wAssign ?_
            all_goals refine ow_nil ?_)
        | (
            refine cw_region (id := 41) rfl ?_
            all_goals refine wAssign ?_
            all_goals refine ow_nil ?_)
        | (
            refine cw_region (id := 42) rfl ?_
            all_goals refine wMove ?_
            all_goals refine wMove ?_
            all_goals refine wLen ?_
            all_goals refine wLss ?_
            all_goals refine ow_nil ?_)
        | (
            refine cw_region (id := 44) rfl ?_
            all_goals refine wMove ?_
            all_goals refine wMove ?_
            all_goals (refine ow_cons ?_; first | refine kIndex ?_ | (refine kIdxR (fun g hg => ?_); subst hg) | (refine kIdxO (fun gb go hg => ?_); subst hg))
            all_goals refine wLoad ?_
            all_goals refine wNot ?_
            all_goals refine ow_nil ?_)
        | (
            refine cw_region (id := 45) rfl ?_
            all_goals refine wMove ?_
            all_goals refine wMove ?_
            all_goals refine wMove ?_
            all_goals (refine ow_cons ?_; first | refine kIndex ?_ | (refine kIdxR (fun g hg => ?_); subst hg) | (refine kIdxO (fun gb go hg => ?_); subst hg))
            all_goals refine wLoad ?_
            all_goals refine wAdd ?_
            all_goals refine wAssign ?_
            all_goals refine ow_nil ?_)
        | (
            refine cw_region (id := 43) rfl ?_
            all_goals refine wMove ?_
            all_goals refine wAdd ?_
            all_goals refine wAssign ?_
            all_goals refine ow_nil ?_)
        | (
            refine cw_region (id := 47) rfl ?_
            all_goals refine wAssign ?_
            all_goals refine ow_nil ?_)
        | (
            refine cw_region (id := 9) rfl ?_
            all_goals refine wMove ?_
            all_goals refine wAdd ?_
            all_goals refine wAssign ?_
            all_goals refine ow_nil ?_)
        | (
            refine cw_region (id := 48) rfl ?_
            all_goals refine wAssign ?_
            all_goals refine ow_nil ?_)
        | refine cw_seq ?_
        | refine tq_n ?_
        | (refine isCW ?_; first | refine cw_region rfl ?_ | refine cw_skip ?_ | refine cw_ret ?_ | refine cw_exit ?_ | refine cw_block ?_ | refine cT ?_ | refine cF ?_ | refine cTrue ?_ | refine cFalse ?_ | refine cS (fun hc => ?_) (fun hc => ?_) | refine cB (fun hc => ?_) (fun hc => ?_))
        | refine tq_ret ?_ | refine tq_exit ?_ | refine bq_n ?_ | refine bq_ret ?_ | refine bq_same ?_ | refine bq_ne rfl ?_
        | refine ow_cons ?_ | refine ow_nil ?_
        | (refine isOpK ?_; first
          | (refine isG ?_; first | refine opk_yes rfl rfl ?_ | refine opk_no rfl rfl ?_ | refine opk_no_undef rfl rfl ?_ | refine opk_g_t rfl rfl (by omega) ?_ | refine opk_g_f rfl rfl (by omega) ?_ | refine opk_g_s rfl rfl (fun hc => ?_) (fun hc => ?_) | refine opk_g_b rfl rfl (fun hc => ?_) (fun hc => ?_))
          | refine kRd ?_
          | (refine st_storeR (τ := tBool) true rfl rfl rfl selA rfl (by omega) ?_)
          | refine kStore ?_
          | refine kStoreA ?_
          | refine kStoreR ?_
          | (refine kIdxR (fun g hg => ?_); subst hg)
          | (refine kIdxO (fun gb go hg => ?_); subst hg)
          | refine st_alloc (fun bN => ?_)
          | refine kBox (fun bN => ?_)
          | refine kBoxA (fun bN => ?_)
          | (refine st_buildSlice rfl rfl rfl rfl (fun bN => ?_))
          | (refine st_clearR rfl selA rfl (by omega) rfl rfl rfl ?_)
          | (refine st_clearR rfl selA (by omega) (by omega) rfl rfl rfl ?_))
        | refine hw_cons ?_ | refine hw_nil ?_
        | (refine isOpS ?_; first
          | (refine os_isG ?_; first | refine os_yes rfl rfl ?_ | refine os_no rfl rfl ?_ | refine os_no_undef rfl rfl ?_ | refine os_g_t rfl rfl (by omega) ?_ | refine os_g_f rfl rfl (by omega) ?_ | refine os_g_s rfl rfl (fun hc => ?_) (fun hc => ?_) | refine os_g_b rfl rfl (fun hc => ?_) (fun hc => ?_))
          | refine sRd ?_))
      refine lp_end (j + 1, lj.set k (z, true)) ⟨rfl, rfl, rfl, rfl, rfl, rfl, rfl, rfl, rfl, trivial⟩ ⟨by simp only; omega, hT2⟩ (by simp only; omega) (fun w h => ?_)
      simp only [List.map_set]
      exact pickL h (.cons selA (.cons selA (.cons selA (.cons selA (.cons selA (selL_all _))))))
    · obtain ⟨hI3, hfl, hlen3⟩ := tell_end hM hge hT
      have hok3 := hI3.sizes
      repeat' (first
        | (
            refine cw_region (id := 0) rfl ?_
            all_goals refine wAssign ?_
            all_goals refine ow_nil ?_)
        | (
            refine cw_region (id := 2) rfl ?_
            all_goals refine wAssign ?_
            all_goals refine ow_nil ?_)
        | (
            refine cw_region (id := 4) rfl ?_
            all_goals refine wAssign ?_
            all_goals refine ow_nil ?_)
        | (
            refine cw_region (id := 5) rfl ?_
            all_goals refine wAssign ?_
            all_goals refine ow_nil ?_)
        | (
            refine cw_region (id := 6) rfl ?_
            all_goals refine wAssign ?_
            all_goals refine ow_nil ?_)
        | (
            refine cw_region (id := 7) rfl ?_
            all_goals refine wAssign ?_
            all_goals refine ow_nil ?_)
        | (
            refine cw_region (id := 8) rfl ?_
            all_goals refine wMove ?_
            all_goals refine wMove ?_
            all_goals refine wLen ?_
            all_goals refine wLss ?_
            all_goals refine wMove ?_
            all_goals (refine ow_cons ?_; first | (refine gTt ?_; refine kMove ?_) | refine gFt ?_ | refine gNo ?_ | refine gUn ?_ | (refine gYes ?_; refine kMove ?_) | (refine gSt (fun hc => ?_) (fun hc => ?_); (focus (refine kMove ?_))) | (refine gBt (fun hc => ?_) (fun hc => ?_); (focus (refine kMove ?_))))
            all_goals (refine ow_cons ?_; first | (refine gTt ?_; refine kLss ?_) | refine gFt ?_ | refine gNo ?_ | refine gUn ?_ | (refine gYes ?_; refine kLss ?_) | (refine gSt (fun hc => ?_) (fun hc => ?_); (focus (refine kLss ?_))) | (refine gBt (fun hc => ?_) (fun hc => ?_); (focus (refine kLss ?_))))
            all_goals refine wPick ?_
            all_goals refine ow_nil ?_)
        | (
            refine cw_region (id := 10) rfl ?_
            all_goals refine wMove ?_
            all_goals refine wMove ?_
            all_goals (refine ow_cons ?_; first | refine kIndex ?_ | (refine kIdxR (fun g hg => ?_); subst hg) | (refine kIdxO (fun gb go hg => ?_); subst hg))
            all_goals refine wLoad ?_
            all_goals (refine ow_cons ?_; refine st_alloc (fun bN => ?_))
            all_goals (refine ow_cons ?_; first | refine kStore ?_ | refine kStoreA ?_ | refine kStoreR ?_)
            all_goals refine ow_nil ?_)
        | (
            refine cw_region (id := 11) rfl ?_
            all_goals refine wMove ?_
            all_goals refine wField ?_
            all_goals refine wLoad ?_
            all_goals refine wConv ?_
            all_goals refine wRem ?_
            all_goals refine wConv ?_
            all_goals refine wAdd ?_
            all_goals refine wMin ?_
            all_goals refine wAssign ?_
            all_goals refine ow_nil ?_)
        | (
            refine cw_region (id := 12) rfl ?_
            all_goals refine wAssign ?_
            all_goals refine ow_nil ?_)
        | (
            refine cw_region (id := 13) rfl ?_
            all_goals refine wField ?_
            all_goals refine wLoad ?_
            all_goals refine ow_nil ?_)
        | (
            refine cw_region (id := 18) rfl ?_
            all_goals refine wEql ?_
            all_goals refine wAssign ?_
            all_goals refine ow_nil ?_)
        | (
            refine cw_region (id := 19) rfl ?_
            all_goals refine wAssign ?_
            all_goals refine ow_nil ?_)
        | (
            refine cw_region (id := 20) rfl ?_
            all_goals refine wAssign ?_
            all_goals refine ow_nil ?_)
        | (
            refine cw_region (id := 21) rfl ?_
            all_goals refine wMove ?_
            all_goals refine wField ?_
            all_goals refine wLoad ?_
            all_goals refine wLen ?_
            all_goals refine wLss ?_
            all_goals refine wMove ?_
            all_goals (refine ow_cons ?_; first | (refine gTt ?_; refine kMove ?_) | refine gFt ?_ | refine gNo ?_ | refine gUn ?_ | (refine gYes ?_; refine kMove ?_) | (refine gSt (fun hc => ?_) (fun hc => ?_); (focus (refine kMove ?_))) | (refine gBt (fun hc => ?_) (fun hc => ?_); (focus (refine kMove ?_))))
            all_goals (refine ow_cons ?_; first | (refine gTt ?_; refine kLss ?_) | refine gFt ?_ | refine gNo ?_ | refine gUn ?_ | (refine gYes ?_; refine kLss ?_) | (refine gSt (fun hc => ?_) (fun hc => ?_); (focus (refine kLss ?_))) | (refine gBt (fun hc => ?_) (fun hc => ?_); (focus (refine kLss ?_))))
            all_goals refine wPick ?_
            all_goals refine wMove ?_
            all_goals (refine ow_cons ?_; first | (refine gTt ?_; refine kMove ?_) | refine gFt ?_ | refine gNo ?_ | refine gUn ?_ | (refine gYes ?_; refine kMove ?_) | (refine gSt (fun hc => ?_) (fun hc => ?_); (focus (refine kMove ?_))) | (refine gBt (fun hc => ?_) (fun hc => ?_); (focus (refine kMove ?_))))
            all_goals (refine ow_cons ?_; first | (refine gTt ?_; refine kLen ?_) | refine gFt ?_ | refine gNo ?_ | refine gUn ?_ | (refine gYes ?_; refine kLen ?_) | (refine gSt (fun hc => ?_) (fun hc => ?_); (focus (refine kLen ?_))) | (refine gBt (fun hc => ?_) (fun hc => ?_); (focus (refine kLen ?_))))
            all_goals (refine ow_cons ?_; first | (refine gTt ?_; refine kGtr ?_) | refine gFt ?_ | refine gNo ?_ | refine gUn ?_ | (refine gYes ?_; refine kGtr ?_) | (refine gSt (fun hc => ?_) (fun hc => ?_); (focus (refine kGtr ?_))) | (refine gBt (fun hc => ?_) (fun hc => ?_); (focus (refine kGtr ?_))))
            all_goals refine wPick ?_
            all_goals refine ow_nil ?_)
        | (
            refine cw_draw (id := 23) 26 (by kernel_rfl) (by kernel_rfl) rfl ?_
            all_goals refine hField ?_
            all_goals refine hLoad ?_
            all_goals refine hMove ?_
            all_goals refine hIndex ?_
            all_goals refine hField ?_
            all_goals refine hLoad ?_
            all_goals refine hConv ?_
            all_goals refine hMove ?_
            all_goals refine hLen ?_
            all_goals refine hConv ?_
            all_goals refine hRem ?_
            all_goals refine hConv ?_
            all_goals refine hField ?_
            all_goals refine hLoad ?_
            all_goals refine hMove ?_
            all_goals refine hIndex ?_
            all_goals refine hField ?_
            all_goals refine hLoad ?_
            all_goals refine hConv ?_
            all_goals refine hMove ?_
            all_goals refine hLen ?_
            all_goals refine hConv ?_
            all_goals refine hRem ?_
            all_goals refine hConv ?_
            all_goals refine hAssign ?_
            all_goals refine hAssign ?_
            all_goals refine hw_nil ?_
            all_goals refine ow_nil ?_)
        | (
            refine cw_region (id := 22) rfl ?_
            all_goals refine wMove ?_
            all_goals refine wAdd ?_
            all_goals refine wAssign ?_
            all_goals refine ow_nil ?_)
        | (
            refine cw_region (id := 26) rfl ?_
            all_goals refine wMove ?_
            all_goals refine wNeq ?_
            all_goals refine ow_nil ?_)
        | (
            refine cw_region (id := 27) rfl ?_
            all_goals refine wAssign ?_
            all_goals refine ow_nil ?_)
        | (
            refine cw_region (id := 29) rfl ?_
            all_goals refine wEql ?_
            all_goals refine wAssign ?_
            all_goals refine ow_nil ?_)
        | (
            refine cw_region (id := 31) rfl ?_
            all_goals refine wMove ?_
            all_goals refine wNeq ?_
            all_goals refine ow_nil ?_)
        | (
            refine cw_region (id := 32) rfl ?_
            all_goals refine wAssign ?_
            all_goals refine ow_nil ?_)
        | (
            refine cw_region (id := 33) rfl ?_
            all_goals refine wMove ?_
            all_goals refine wAssign ?_
            all_goals refine ow_nil ?_)
        | (
            refine cw_region (id := 14) rfl ?_
            all_goals refine wField ?_
            all_goals refine wLoad ?_
            all_goals refine wConv ?_
            all_goals refine wRem ?_
            all_goals refine wConv ?_
            all_goals refine wAdd ?_
            all_goals refine wAssign ?_
            all_goals refine ow_nil ?_)
        | (
            refine cw_region (id := 16) rfl ?_
            all_goals refine wAssign ?_
            all_goals refine ow_nil ?_)
        | (
            refine cw_region (id := 34) rfl ?_
            all_goals refine wAssign ?_
            all_goals refine ow_nil ?_)
        | (
            refine cw_region (id := 35) rfl ?_
            all_goals refine wMove ?_
            all_goals refine wMove ?_
            all_goals refine wLen ?_
            all_goals refine wLss ?_
            all_goals refine ow_nil ?_)
        | (
            refine cw_region (id := 37) rfl ?_
            all_goals refine wMove ?_
            all_goals refine wMove ?_
            all_goals (refine ow_cons ?_; first | refine kIndex ?_ | (refine kIdxR (fun g hg => ?_); subst hg) | (refine kIdxO (fun gb go hg => ?_); subst hg))
            all_goals refine wLoad ?_
            all_goals refine wLss ?_
            all_goals refine wMove ?_
            all_goals (refine ow_cons ?_; first | (refine gTf ?_; refine kMove ?_) | refine gFf ?_ | refine gNo ?_ | refine gUn ?_ | (refine gYes ?_; refine kMove ?_) | (refine gSf (fun hc => ?_) (fun hc => ?_); rotate_left; (focus (refine kMove ?_)); rotate_right) | (refine gBf (fun hc => ?_) (fun hc => ?_); rotate_left; (focus (refine kMove ?_)); rotate_right))
            all_goals (refine ow_cons ?_; first | (refine gTf ?_; refine kMove ?_) | refine gFf ?_ | refine gNo ?_ | refine gUn ?_ | (refine gYes ?_; refine kMove ?_) | (refine gSf (fun hc => ?_) (fun hc => ?_); rotate_left; (focus (refine kMove ?_)); rotate_right) | (refine gBf (fun hc => ?_) (fun hc => ?_); rotate_left; (focus (refine kMove ?_)); rotate_right))
            all_goals (refine ow_cons ?_; first | (refine gTf ?_; first | refine kIndex ?_ | (refine kIdxR (fun g hg => ?_); subst hg) | (refine kIdxO (fun gb go hg => ?_); subst hg)) | refine gFf ?_ | refine gNo ?_ | refine gUn ?_ | (refine gYes ?_; first | refine kIndex ?_ | (refine kIdxR (fun g hg => ?_); subst hg) | (refine kIdxO (fun gb go hg => ?_); subst hg)) | (refine gSf (fun hc => ?_) (fun hc => ?_); rotate_left; (focus (first | refine kIndex ?_ | (refine kIdxR (fun g hg => ?_); subst hg) | (refine kIdxO (fun gb go hg => ?_); subst hg))); rotate_right) | (refine gBf (fun hc => ?_) (fun hc => ?_); rotate_left; (focus (first | refine kIndex ?_ | (refine kIdxR (fun g hg => ?_); subst hg) | (refine kIdxO (fun gb go hg => ?_); subst hg))); rotate_right))
            all_goals (refine ow_cons ?_; first | (refine gTf ?_; refine kLoad ?_) | refine gFf ?_ | refine gNo ?_ | refine gUn ?_ | (refine gYes ?_; refine kLoad ?_) | (refine gSf (fun hc => ?_) (fun hc => ?_); rotate_left; (focus (refine kLoad ?_)); rotate_right) | (refine gBf (fun hc => ?_) (fun hc => ?_); rotate_left; (focus (refine kLoad ?_)); rotate_right))
            all_goals (refine ow_cons ?_; first | (refine gTf ?_; refine kMove ?_) | refine gFf ?_ | refine gNo ?_ | refine gUn ?_ | (refine gYes ?_; refine kMove ?_) | (refine gSf (fun hc => ?_) (fun hc => ?_); rotate_left; (focus (refine kMove ?_)); rotate_right) | (refine gBf (fun hc => ?_) (fun hc => ?_); rotate_left; (focus (refine kMove ?_)); rotate_right))
            all_goals (refine ow_cons ?_; first | (refine gTf ?_; refine kLen ?_) | refine gFf ?_ | refine gNo ?_ | refine gUn ?_ | (refine gYes ?_; refine kLen ?_) | (refine gSf (fun hc => ?_) (fun hc => ?_); rotate_left; (focus (refine kLen ?_)); rotate_right) | (refine gBf (fun hc => ?_) (fun hc => ?_); rotate_left; (focus (refine kLen ?_)); rotate_right))
            all_goals (refine ow_cons ?_; first | (refine gTf ?_; refine kGeq ?_) | refine gFf ?_ | refine gNo ?_ | refine gUn ?_ | (refine gYes ?_; refine kGeq ?_) | (refine gSf (fun hc => ?_) (fun hc => ?_); rotate_left; (focus (refine kGeq ?_)); rotate_right) | (refine gBf (fun hc => ?_) (fun hc => ?_); rotate_left; (focus (refine kGeq ?_)); rotate_right))
            all_goals refine wPick ?_
            all_goals refine wMove ?_
            all_goals (refine ow_cons ?_; first | (refine gTf ?_; refine kMove ?_) | refine gFf ?_ | refine gNo ?_ | refine gUn ?_ | (refine gYes ?_; refine kMove ?_) | (refine gSf (fun hc => ?_) (fun hc => ?_); rotate_left; (focus (refine kMove ?_)); rotate_right) | (refine gBf (fun hc => ?_) (fun hc => ?_); rotate_left; (focus (refine kMove ?_)); rotate_right))
            all_goals (refine ow_cons ?_; first | (refine gTf ?_; refine kMove ?_) | refine gFf ?_ | refine gNo ?_ | refine gUn ?_ | (refine gYes ?_; refine kMove ?_) | (refine gSf (fun hc => ?_) (fun hc => ?_); rotate_left; (focus (refine kMove ?_)); rotate_right) | (refine gBf (fun hc => ?_) (fun hc => ?_); rotate_left; (focus (refine kMove ?_)); rotate_right))
            all_goals (refine ow_cons ?_; first | (refine gTf ?_; refine kMove ?_) | refine gFf ?_ | refine gNo ?_ | refine gUn ?_ | (refine gYes ?_; refine kMove ?_) | (refine gSf (fun hc => ?_) (fun hc => ?_); rotate_left; (focus (refine kMove ?_)); rotate_right) | (refine gBf (fun hc => ?_) (fun hc => ?_); rotate_left; (focus (refine kMove ?_)); rotate_right))
            all_goals (refine ow_cons ?_; first | (refine gTf ?_; first | refine kIndex ?_ | (refine kIdxR (fun g hg => ?_); subst hg) | (refine kIdxO (fun gb go hg => ?_); subst hg)) | refine gFf ?_ | refine gNo ?_ | refine gUn ?_ | (refine gYes ?_; first | refine kIndex ?_ | (refine kIdxR (fun g hg => ?_); subst hg) | (refine kIdxO (fun gb go hg => ?_); subst hg)) | (refine gSf (fun hc => ?_) (fun hc => ?_); rotate_left; (focus (first | refine kIndex ?_ | (refine kIdxR (fun g hg => ?_); subst hg) | (refine kIdxO (fun gb go hg => ?_); subst hg))); rotate_right) | (refine gBf (fun hc => ?_) (fun hc => ?_); rotate_left; (focus (first | refine kIndex ?_ | (refine kIdxR (fun g hg => ?_); subst hg) | (refine kIdxO (fun gb go hg => ?_); subst hg))); rotate_right))
            all_goals (refine ow_cons ?_; first | (refine gTf ?_; refine kLoad ?_) | refine gFf ?_ | refine gNo ?_ | refine gUn ?_ | (refine gYes ?_; refine kLoad ?_) | (refine gSf (fun hc => ?_) (fun hc => ?_); rotate_left; (focus (refine kLoad ?_)); rotate_right) | (refine gBf (fun hc => ?_) (fun hc => ?_); rotate_left; (focus (refine kLoad ?_)); rotate_right))
            all_goals (refine ow_cons ?_; first | (refine gTf ?_; first | refine kIndex ?_ | (refine kIdxR (fun g hg => ?_); subst hg) | (refine kIdxO (fun gb go hg => ?_); subst hg)) | refine gFf ?_ | refine gNo ?_ | refine gUn ?_ | (refine gYes ?_; first | refine kIndex ?_ | (refine kIdxR (fun g hg => ?_); subst hg) | (refine kIdxO (fun gb go hg => ?_); subst hg)) | (refine gSf (fun hc => ?_) (fun hc => ?_); rotate_left; (focus (first | refine kIndex ?_ | (refine kIdxR (fun g hg => ?_); subst hg) | (refine kIdxO (fun gb go hg => ?_); subst hg))); rotate_right) | (refine gBf (fun hc => ?_) (fun hc => ?_); rotate_left; (focus (first | refine kIndex ?_ | (refine kIdxR (fun g hg => ?_); subst hg) | (refine kIdxO (fun gb go hg => ?_); subst hg))); rotate_right))
            all_goals (refine ow_cons ?_; first | (refine gTf ?_; refine kLoad ?_) | refine gFf ?_ | refine gNo ?_ | refine gUn ?_ | (refine gYes ?_; refine kLoad ?_) | (refine gSf (fun hc => ?_) (fun hc => ?_); rotate_left; (focus (refine kLoad ?_)); rotate_right) | (refine gBf (fun hc => ?_) (fun hc => ?_); rotate_left; (focus (refine kLoad ?_)); rotate_right))
            all_goals refine wPick ?_
            all_goals refine ow_nil ?_)
        | (
            refine cw_region (id := 38) rfl ?_
            all_goals refine wAssign ?_
            all_goals refine ow_nil ?_)
        | (
            refine cw_region (id := 39) rfl ?_
            all_goals refine wMove ?_
            all_goals refine wMove ?_
            all_goals refine wMove ?_
            all_goals (refine ow_cons ?_; first | refine kIndex ?_ | (refine kIdxR (fun g hg => ?_); subst hg) | (refine kIdxO (fun gb go hg => ?_); subst hg))
            all_goals refine wLoad ?_
            all_goals (refine ow_cons ?_; first | refine kIndex ?_ | (refine kIdxR (fun g hg => ?_); subst hg) | (refine kIdxO (fun gb go hg => ?_); subst hg))
            all_goals (refine ow_cons ?_; first | refine kStore ?_ | refine kStoreA ?_ | refine kStoreR ?_)
            all_goals refine ow_nil ?_)
        | (
            refine cw_region (id := 36) rfl ?_
            all_goals refine wMove ?_
            all_goals refine wAdd ?_
            all_goals refine wAssign ?_
            all_goals refine ow_nil ?_)
        | (
            refine cw_region (id := 40) rfl ?_
            all_goals refine wAssign ?_
            all_goals refine ow_nil ?_)
        | (
            refine cw_region (id := 41) rfl ?_
            all_goals refine wAssign ?_
            all_goals refine ow_nil ?_)
        | (
            refine cw_region (id := 42) rfl ?_
            all_goals refine wMove ?_
            all_goals refine wMove ?_
            all_goals refine wLen ?_
            all_goals refine wLss ?_
            all_goals refine ow_nil ?_)
        | (
            refine cw_region (id := 44) rfl ?_
            all_goals refine wMove ?_
            all_goals refine wMove ?_
            all_goals (refine ow_cons ?_; first | refine kIndex ?_ | (refine kIdxR (fun g hg => ?_); subst hg) | (refine kIdxO (fun gb go hg => ?_); subst hg))
            all_goals refine wLoad ?_
            all_goals refine wNot ?_
            all_goals refine ow_nil ?_)
        | (
            refine cw_region (id := 45) rfl ?_
            all_goals refine wMove ?_
            all_goals refine wMove ?_
            all_goals refine wMove ?_
            all_goals (refine ow_cons ?_; first | refine kIndex ?_ | (refine kIdxR (fun g hg => ?_); subst hg) | (refine kIdxO (fun gb go hg => ?_); subst hg))
            all_goals refine wLoad ?_
            all_goals refine wAdd ?_
            all_goals refine wAssign ?_
            all_goals refine ow_nil ?_)
        | (
            refine cw_region (id := 43) rfl ?_
            all_goals refine wMove ?_
            all_goals refine wAdd ?_
            all_goals refine wAssign ?_
            all_goals refine ow_nil ?_)
        | (
            refine cw_region (id := 47) rfl ?_
            all_goals refine wAssign ?_
            all_goals refine ow_nil ?_)
        | (
            refine cw_region (id := 9) rfl ?_
            all_goals refine wMove ?_
            all_goals refine wAdd ?_
            all_goals refine wAssign ?_
            all_goals refine ow_nil ?_)
        | (
            refine cw_region (id := 48) rfl ?_
            all_goals refine wAssign ?_
            all_goals refine ow_nil ?_)
        | refine cw_seq ?_
        | refine tq_n ?_
        | (refine isCW ?_; first | refine cw_region rfl ?_ | refine cw_skip ?_ | refine cw_ret ?_ | refine cw_exit ?_ | refine cw_block ?_ | refine cT ?_ | refine cF ?_ | refine cTrue ?_ | refine cFalse ?_ | refine cS (fun hc => ?_) (fun hc => ?_) | refine cB (fun hc => ?_) (fun hc => ?_))
        | refine tq_ret ?_ | refine tq_exit ?_ | refine bq_n ?_ | refine bq_ret ?_ | refine bq_same ?_ | refine bq_ne rfl ?_
        | refine ow_cons ?_ | refine ow_nil ?_
        | (refine isOpK ?_; first
          | (refine isG ?_; first | refine opk_yes rfl rfl ?_ | refine opk_no rfl rfl ?_ | refine opk_no_undef rfl rfl ?_ | refine opk_g_t rfl rfl (by omega) ?_ | refine opk_g_f rfl rfl (by omega) ?_ | refine opk_g_s rfl rfl (fun hc => ?_) (fun hc => ?_) | refine opk_g_b rfl rfl (fun hc => ?_) (fun hc => ?_))
          | refine kRd ?_
          | refine kStore ?_
          | refine kStoreA ?_
          | refine kStoreR ?_
          | (refine kIdxR (fun g hg => ?_); subst hg)
          | (refine kIdxO (fun gb go hg => ?_); subst hg)
          | refine st_alloc (fun bN => ?_)
          | refine kBox (fun bN => ?_)
          | refine kBoxA (fun bN => ?_)
          | (refine st_buildSlice rfl rfl rfl rfl (fun bN => ?_))
          | (refine st_clearR rfl selA rfl (by omega) rfl rfl rfl ?_)
          | (refine st_clearR rfl selA (by omega) (by omega) rfl rfl rfl ?_))
        | refine hw_cons ?_ | refine hw_nil ?_
        | (refine isOpS ?_; first
          | (refine os_isG ?_; first | refine os_yes rfl rfl ?_ | refine os_no rfl rfl ?_ | refine os_no_undef rfl rfl ?_ | refine os_g_t rfl rfl (by omega) ?_ | refine os_g_f rfl rfl (by omega) ?_ | refine os_g_s rfl rfl (fun hc => ?_) (fun hc => ?_) | refine os_g_b rfl rfl (fun hc => ?_) (fun hc => ?_))
          | refine sRd ?_))
      refine cw_rounds (S := fun k : Nat => [(0, .slice (some ⟨gb, go, none⟩) evs.length cap), (2, .bool false), (3, ptr b), (4, .slice (oad az2) (l2.map (·.1)).length cz2), (5, .slice (oad at2) (l2.map (·.2)).length ct2), (6, i6 now2), (7, .int .i64 (i : Nat)), (22, i6 (sf (lj.take k))), (23, .int .i64 (k : Nat))])
        (H := fun _ => [blk b 63 (encS s2 a2 c2), row a2 66 c2 tPk s2.waits, row az2 3 cz2 (tInt .i64) (l2.map (·.1)), row at2 4 ct2 tBool (lj.map (·.2))] ++ evsH (some ⟨gb, go, none⟩) evs)
        (V := fun k => k ≤ lj.length) (μ := fun k => lj.length - k) 0 ⟨rfl, rfl, rfl, rfl, rfl, rfl, rfl, rfl, rfl, trivial⟩ (Nat.zero_le _) (fun w h => pickL h (.cons selA (.cons selA (.cons selA (.cons selA (selL_tail [_] _)))))) ?_
      rintro k e' hk
      dsimp only [upds]
      rcases Nat.lt_or_ge k lj.length with hlt | hge2
      · obtain ⟨⟨z, t⟩, hlk⟩ : ∃ x, lj[k]? = some x := ⟨_, List.getElem?_eq_getElem hlt⟩
        have hz := hok3 _ (List.mem_of_getElem? hlk)
        have hz1 : (l2.map (·.1))[k]? = some z := by rw [← hT.fst, List.getElem?_map, hlk]; rfl
        have ht1 : (lj.map (·.2))[k]? = some t := by rw [List.getElem?_map, hlk]; rfl
        have hsb := sf_bound (lj.take k) (fun x hx => hok3 x (List.mem_of_mem_take hx))
        have htl : (lj.take k).length ≤ 81 := by rw [List.length_take]; omega
        have hsn : sf (lj.take (k + 1)) = sf (lj.take k) + (if t then 0 else z) := by rw [take_snoc hlk, sf_append]; simp [sf]
        simp only at hz
        cases t
        · simp only [Bool.false_eq_true, if_false] at hsn
          repeat' (first
            | (
                refine cw_region (id := 0) rfl ?_
                all_goals refine wAssign ?_
                all_goals refine ow_nil ?_)
            | (
                refine cw_region (id := 2) rfl ?_
                all_goals refine wAssign ?_
                all_goals refine ow_nil ?_)
            | (
                refine cw_region (id := 4) rfl ?_
                all_goals refine wAssign ?_
                all_goals refine ow_nil ?_)
            | (
                refine cw_region (id := 5) rfl ?_
                all_goals refine wAssign ?_
                all_goals refine ow_nil ?_)
            | (
                refine cw_region (id := 6) rfl ?_
                all_goals refine wAssign ?_
                all_goals refine ow_nil ?_)
            | (
                refine cw_region (id := 7) rfl ?_
                all_goals refine wAssign ?_
                all_goals refine ow_nil ?_)
            | (
                refine cw_region (id := 8) rfl ?_
                all_goals refine wMove ?_
                all_goals refine wMove ?_
                all_goals refine wLen ?_
                all_goals refine wLss ?_
                all_goals refine wMove ?_
                all_goals (refine ow_cons ?_; first | (refine gTt ?_; refine kMove ?_) | refine gFt ?_ | refine gNo ?_ | refine gUn ?_ | (refine gYes ?_; refine kMove ?_) | (refine gSt (fun hc => ?_) (fun hc => ?_); (focus (refine kMove ?_))) | (refine gBt (fun hc => ?_) (fun hc => ?_); (focus (refine kMove ?_))))
                all_goals (refine ow_cons ?_; first | (refine gTt ?_; refine kLss ?_) | refine gFt ?_ | refine gNo ?_ | refine gUn ?_ | (refine gYes ?_; refine kLss ?_) | (refine gSt (fun hc => ?_) (fun hc => ?_); (focus (refine kLss ?_))) | (refine gBt (fun hc => ?_) (fun hc => ?_); (focus (refine kLss ?_))))
                all_goals refine wPick ?_
                all_goals refine ow_nil ?_)
            | (
                refine cw_region (id := 10) rfl ?_
                all_goals refine wMove ?_
                all_goals refine wMove ?_
                all_goals (refine ow_cons ?_; first | refine kIndex ?_ | (refine kIdxR (fun g hg => ?_); subst hg) | (refine kIdxO (fun gb go hg => ?_); subst hg))
                all_goals refine wLoad ?_
                all_goals (refine ow_cons ?_; refine st_alloc (fun bN => ?_))
                all_goals (refine ow_cons ?_; first | refine kStore ?_ | refine kStoreA ?_ | refine kStoreR ?_)
                all_goals refine ow_nil ?_)
            | (
                refine cw_region (id := 11) rfl ?_
                all_goals refine wMove ?_
                all_goals refine wField ?_
                all_goals refine wLoad ?_
                all_goals refine wConv ?_
                all_goals refine wRem ?_
                all_goals refine wConv ?_
                all_goals refine wAdd ?_
                all_goals refine wMin ?_
                all_goals refine wAssign ?_
                all_goals refine ow_nil ?_)
            | (
                refine cw_region (id := 12) rfl ?_
                all_goals refine wAssign ?_
                all_goals refine ow_nil ?_)
            | (
                refine cw_region (id := 13) rfl ?_
                all_goals refine wField ?_
                all_goals refine wLoad ?_
                all_goals refine ow_nil ?_)
            | (
                refine cw_region (id := 18) rfl ?_
                all_goals refine wEql ?_
                all_goals refine wAssign ?_
                all_goals refine ow_nil ?_)
            | (
                refine cw_region (id := 19) rfl ?_
                all_goals refine wAssign ?_
                all_goals refine ow_nil ?_)
            | (
                refine cw_region (id := 20) rfl ?_
                all_goals refine wAssign ?_
                all_goals refine ow_nil ?_)
            | (
                refine cw_region (id := 21) rfl ?_
                all_goals refine wMove ?_
                all_goals refine wField ?_
                all_goals refine wLoad ?_
                all_goals refine wLen ?_
                all_goals refine wLss ?_
                all_goals refine wMove ?_
                all_goals (refine ow_cons ?_; first | (refine gTt ?_; refine kMove ?_) | refine gFt ?_ | refine gNo ?_ | refine gUn ?_ | (refine gYes ?_; refine kMove ?_) | (refine gSt (fun hc => ?_) (fun hc => ?_); (focus (refine kMove ?_))) | (refine gBt (fun hc => ?_) (fun hc => ?_); (focus (refine kMove ?_))))
                all_goals (refine ow_cons ?_; first | (refine gTt ?_; refine kLss ?_) | refine gFt ?_ | refine gNo ?_ | refine gUn ?_ | (refine gYes ?_; refine kLss ?_) | (refine gSt (fun hc => ?_) (fun hc => ?_); (focus (refine kLss ?_))) | (refine gBt (fun hc => ?_) (fun hc => ?_); (focus (refine kLss ?_))))
                all_goals refine wPick ?_
                all_goals refine wMove ?_
                all_goals (refine ow_cons ?_; first | (refine gTt ?_; refine kMove ?_) | refine gFt ?_ | refine gNo ?_ | refine gUn ?_ | (refine gYes ?_; refine kMove ?_) | (refine gSt (fun hc => ?_) (fun hc => ?_); (focus (refine kMove ?_))) | (refine gBt (fun hc => ?_) (fun hc => ?_); (focus (refine kMove ?_))))
                all_goals (refine ow_cons ?_; first | (refine gTt ?_; refine kLen ?_) | refine gFt ?_ | refine gNo ?_ | refine gUn ?_ | (refine gYes ?_; refine kLen ?_) | (refine gSt (fun hc => ?_) (fun hc => ?_); (focus (refine kLen ?_))) | (refine gBt (fun hc => ?_) (fun hc => ?_); (focus (refine kLen ?_))))
                all_goals (refine ow_cons ?_; first | (refine gTt ?_; refine kGtr ?_) | refine gFt ?_ | refine gNo ?_ | refine gUn ?_ | (refine gYes ?_; refine kGtr ?_) | (refine gSt (fun hc => ?_) (fun hc => ?_); (focus (refine kGtr ?_))) | (refine gBt (fun hc => ?_) (fun hc => ?_); (focus (refine kGtr ?_))))
                all_goals refine wPick ?_
                all_goals refine ow_nil ?_)
            | (
                refine cw_draw (id := 23) 26 (by kernel_rfl) (by kernel_rfl) rfl ?_
                all_goals refine hField ?_
                all_goals refine hLoad ?_
                all_goals refine hMove ?_
                all_goals refine hIndex ?_
                all_goals refine hField ?_
                all_goals refine hLoad ?_
                all_goals refine hConv ?_
                all_goals refine hMove ?_
                all_goals refine hLen ?_
                all_goals refine hConv ?_
                all_goals refine hRem ?_
                all_goals refine hConv ?_
                all_goals refine hField ?_
                all_goals refine hLoad ?_
                all_goals refine hMove ?_
                all_goals refine hIndex ?_
                all_goals refine hField ?_
                all_goals refine hLoad ?_
                all_goals refine hConv ?_
                all_goals refine hMove ?_
                all_goals refine hLen ?_
                all_goals refine hConv ?_
                all_goals refine hRem ?_
                all_goals refine hConv ?_
                all_goals refine hAssign ?_
                all_goals refine hAssign ?_
                all_goals refine hw_nil ?_
                all_goals refine ow_nil ?_)
            | (
                refine cw_region (id := 22) rfl ?_
                all_goals refine wMove ?_
                all_goals refine wAdd ?_
                all_goals refine wAssign ?_
                all_goals refine ow_nil ?_)
            | (
                refine cw_region (id := 26) rfl ?_
                all_goals refine wMove ?_
                all_goals refine wNeq ?_
                all_goals refine ow_nil ?_)
            | (
                refine cw_region (id := 27) rfl ?_
                all_goals refine wAssign ?_
                all_goals refine ow_nil ?_)
            | (
                refine cw_region (id := 29) rfl ?_
                all_goals refine wEql ?_
                all_goals refine wAssign ?_
                all_goals refine ow_nil ?_)
            | (
                refine cw_region (id := 31) rfl ?_
                all_goals refine wMove ?_
                all_goals refine wNeq ?_
                all_goals refine ow_nil ?_)
            | (
                refine cw_region (id := 32) rfl ?_
                all_goals refine wAssign ?_
                all_goals refine ow_nil ?_)
            | (
                refine cw_region (id := 33) rfl ?_
                all_goals refine wMove ?_
                all_goals refine wAssign ?_
                all_goals refine ow_nil ?_)
            | (
                refine cw_region (id := 14) rfl ?_
                all_goals refine wField ?_
                all_goals refine wLoad ?_
                all_goals refine wConv ?_
                all_goals refine wRem ?_
                all_goals refine wConv ?_
                all_goals refine wAdd ?_
                all_goals refine wAssign ?_
                all_goals refine ow_nil ?_)
            | (
                refine cw_region (id := 16) rfl ?_
                all_goals refine wAssign ?_
                all_goals refine ow_nil ?_)
            | (
                refine cw_region (id := 34) rfl ?_
                all_goals refine wAssign ?_
                all_goals refine ow_nil ?_)
            | (
                refine cw_region (id := 35) rfl ?_
                all_goals refine wMove ?_
                all_goals refine wMove ?_
                all_goals refine wLen ?_
                all_goals refine wLss ?_
                all_goals refine ow_nil ?_)
            | (
                refine cw_region (id := 37) rfl ?_
                all_goals refine wMove ?_
                all_goals refine wMove ?_
                all_goals (refine ow_cons ?_; first | refine kIndex ?_ | (refine kIdxR (fun g hg => ?_); subst hg) | (refine kIdxO (fun gb go hg => ?_); subst hg))
                all_goals refine wLoad ?_
                all_goals refine wLss ?_
                all_goals refine wMove ?_
                all_goals (refine ow_cons ?_; first | (refine gTf ?_; refine kMove ?_) | refine gFf ?_ | refine gNo ?_ | refine gUn ?_ | (refine gYes ?_; refine kMove ?_) | (refine gSf (fun hc => ?_) (fun hc => ?_); rotate_left; (focus (refine kMove ?_)); rotate_right) | (refine gBf (fun hc => ?_) (fun hc => ?_); rotate_left; (focus (refine kMove ?_)); rotate_right))
                all_goals (refine ow_cons ?_; first | (refine gTf ?_; refine kMove ?_) | refine gFf ?_ | refine gNo ?_ | refine gUn ?_ | (refine gYes ?_; refine kMove ?_) | (refine gSf (fun hc => ?_) (fun hc => ?_); rotate_left; (focus (refine kMove ?_)); rotate_right) | (refine gBf (fun hc => ?_) (fun hc => ?_); rotate_left; (focus (refine kMove ?_)); rotate_right))
                all_goals (refine ow_cons ?_; first | (refine gTf ?_; first | refine kIndex ?_ | (refine kIdxR (fun g hg => ?_); subst hg) | (refine kIdxO (fun gb go hg => ?_); subst hg)) | refine gFf ?_ | refine gNo ?_ | refine gUn ?_ | (refine gYes ?_; first | refine kIndex ?_ | (refine kIdxR (fun g hg => ?_); subst hg) | (refine kIdxO (fun gb go hg => ?_); subst hg)) | (refine gSf (fun hc => ?_) (fun hc => ?_); rotate_left; (focus (first | refine kIndex ?_ | (refine kIdxR (fun g hg => ?_); subst hg) | (refine kIdxO (fun gb go hg => ?_); subst hg))); rotate_right) | (refine gBf (fun hc => ?_) (fun hc => ?_); rotate_left; (focus (first | refine kIndex ?_ | (refine kIdxR (fun g hg => ?_); subst hg) | (refine kIdxO (fun gb go hg => ?_); subst hg))); rotate_right))
                all_goals (refine ow_cons ?_; first | (refine gTf ?_; refine kLoad ?_) | refine gFf ?_ | refine gNo ?_ | refine gUn ?_ | (refine gYes ?_; refine kLoad ?_) | (refine gSf (fun hc => ?_) (fun hc => ?_); rotate_left; (focus (refine kLoad ?_)); rotate_right) | (refine gBf (fun hc => ?_) (fun hc => ?_); rotate_left; (focus (refine kLoad ?_)); rotate_right))
                all_goals (refine ow_cons ?_; first | (refine gTf ?_; refine kMove ?_) | refine gFf ?_ | refine gNo ?_ | refine gUn ?_ | (refine gYes ?_; refine kMove ?_) | (refine gSf (fun hc => ?_) (fun hc => ?_); rotate_left; (focus (refine kMove ?_)); rotate_right) | (refine gBf (fun hc => ?_) (fun hc => ?_); rotate_left; (focus (refine kMove ?_)); rotate_right))
                all_goals (refine ow_cons ?_; first | (refine gTf ?_; refine kLen ?_) | refine gFf ?_ | refine gNo ?_ | refine gUn ?_ | (refine gYes ?_; refine kLen ?_) | (refine gSf (fun hc => ?_) (fun hc => ?_); rotate_left; (focus (refine kLen ?_)); rotate_right) | (refine gBf (fun hc => ?_) (fun hc => ?_); rotate_left; (focus (refine kLen ?_)); rotate_right))
                all_goals (refine ow_cons ?_; first | (refine gTf ?_; refine kGeq ?_) | refine gFf ?_ | refine gNo ?_ | refine gUn ?_ | (refine gYes ?_; refine kGeq ?_) | (refine gSf (fun hc => ?_) (fun hc => ?_); rotate_left; (focus (refine kGeq ?_)); rotate_right) | (refine gBf (fun hc => ?_) (fun hc => ?_); rotate_left; (focus (refine kGeq ?_)); rotate_right))
                all_goals refine wPick ?_
                all_goals refine wMove ?_
                all_goals (refine ow_cons ?_; first | (refine gTf ?_; refine kMove ?_) | refine gFf ?_ | refine gNo ?_ | refine gUn ?_ | (refine gYes ?_; refine kMove ?_) | (refine gSf (fun hc => ?_) (fun hc => ?_); rotate_left; (focus (refine kMove ?_)); rotate_right) | (refine gBf (fun hc => ?_) (fun hc => ?_); rotate_left; (focus (refine kMove ?_)); rotate_right))
                all_goals (refine ow_cons ?_; first | (refine gTf ?_; refine kMove ?_) | refine gFf ?_ | refine gNo ?_ | refine gUn ?_ | (refine gYes ?_; refine kMove ?_) | (refine gSf (fun hc => ?_) (fun hc => ?_); rotate_left; (focus (refine kMove ?_)); rotate_right) | (refine gBf (fun hc => ?_) (fun hc => ?_); rotate_left; (focus (refine kMove ?_)); rotate_right))
                all_goals (refine ow_cons ?_; first | (refine gTf ?_; refine kMove ?_) | refine gFf ?_ | refine gNo ?_ | refine gUn ?_ | (refine gYes ?_; refine kMove ?_) | (refine gSf (fun hc => ?_) (fun hc => ?_); rotate_left; (focus (refine kMove ?_)); rotate_right) | (refine gBf (fun hc => ?_) (fun hc => ?_); rotate_left; (focus (refine kMove ?_)); rotate_right))
                all_goals (refine ow_cons ?_; first | (refine gTf ?_; first | refine kIndex ?_ | (refine kIdxR (fun g hg => ?_); subst hg) | (refine kIdxO (fun gb go hg => ?_); subst hg)) | refine gFf ?_ | refine gNo ?_ | refine gUn ?_ | (refine gYes ?_; first | refine kIndex ?_ | (refine kIdxR (fun g hg => ?_); subst hg) | (refine kIdxO (fun gb go hg => ?_); subst hg)) | (refine gSf (fun hc => ?_) (fun hc => ?_); rotate_left; (focus (first | refine kIndex ?_ | (refine kIdxR (fun g hg => ?_); subst hg) | (refine kIdxO (fun gb go hg => ?_); subst hg))); rotate_right) | (refine gBf (fun hc => ?_) (fun hc => ?_); rotate_left; (focus (first | refine kIndex ?_ | (refine kIdxR (fun g hg => ?_); subst hg) | (refine kIdxO (fun gb go hg => ?_); subst hg))); rotate_right))
                all_goals (refine ow_cons ?_; first | (refine gTf ?_; refine kLoad ?_) | refine gFf ?_ | refine gNo ?_ | refine gUn ?_ | (refine gYes ?_; refine kLoad ?_) | (refine gSf (fun hc => ?_) (fun hc => ?_); rotate_left; (focus (refine kLoad ?_)); rotate_right) | (refine gBf (fun hc => ?_) (fun hc => ?_); rotate_left; (focus (refine kLoad ?_)); rotate_right))
                all_goals (refine ow_cons ?_; first | (refine gTf ?_; first | refine kIndex ?_ | (refine kIdxR (fun g hg => ?_); subst hg) | (refine kIdxO (fun gb go hg => ?_); subst hg)) | refine gFf ?_ | refine gNo ?_ | refine gUn ?_ | (refine gYes ?_; first | refine kIndex ?_ | (refine kIdxR (fun g hg => ?_); subst hg) | (refine kIdxO (fun gb go hg => ?_); subst hg)) | (refine gSf (fun hc => ?_) (fun hc => ?_); rotate_left; (focus (first | refine kIndex ?_ | (refine kIdxR (fun g hg => ?_); subst hg) | (refine kIdxO (fun gb go hg => ?_); subst hg))); rotate_right) | (refine gBf (fun hc => ?_) (fun hc => ?_); rotate_left; (focus (first | refine kIndex ?_ | (refine kIdxR (fun g hg => ?_); subst hg) | (refine kIdxO (fun gb go hg => ?_); subst hg))); rotate_right))
                all_goals (refine ow_cons ?_; first | (refine gTf ?_; refine kLoad ?_) | refine gFf ?_ | refine gNo ?_ | refine gUn ?_ | (refine gYes ?_; refine kLoad ?_) | (refine gSf (fun hc => ?_) (fun hc => ?_); rotate_left; (focus (refine kLoad ?_)); rotate_right) | (refine gBf (fun hc => ?_) (fun hc => ?_); rotate_left; (focus (refine kLoad ?_)); rotate_right))
                all_goals refine wPick ?_
                all_goals refine ow_nil ?_)
            | (
                refine cw_region (id := 38) rfl ?_
                all_goals refine wAssign ?_
                all_goals refine ow_nil ?_)
            | (
                refine cw_region (id := 39) rfl ?_
                all_goals refine wMove ?_
                all_goals refine wMove ?_
                all_goals refine wMove ?_
                all_goals (refine ow_cons ?_; first | refine kIndex ?_ | (refine kIdxR (fun g hg => ?_); subst hg) | (refine kIdxO (fun gb go hg => ?_); subst hg))
                all_goals refine wLoad ?_
                all_goals (refine ow_cons ?_; first | refine kIndex ?_ | (refine kIdxR (fun g hg => ?_); subst hg) | (refine kIdxO (fun gb go hg => ?_); subst hg))
                all_goals (refine ow_cons ?_; first | refine kStore ?_ | refine kStoreA ?_ | refine kStoreR ?_)
                all_goals refine ow_nil ?_)
            | (
                refine cw_region (id := 36) rfl ?_
                all_goals refine wMove ?_
                all_goals refine wAdd ?_
                all_goals refine wAssign ?_
                all_goals refine ow_nil ?_)
            | (
                refine cw_region (id := 40) rfl ?_
                all_goals refine wAssign ?_
                all_goals refine ow_nil ?_)
            | (
                refine cw_region (id := 41) rfl ?_
                all_goals refine wAssign ?_
                all_goals refine ow_nil ?_)
            | (
                refine cw_region (id := 42) rfl ?_
                all_goals refine wMove ?_
                all_goals refine wMove ?_
                all_goals refine wLen ?_
                all_goals refine wLss ?_
                all_goals refine ow_nil ?_)
            | (
                refine cw_region (id := 44) rfl ?_
                all_goals refine wMove ?_
                all_goals refine wMove ?_
                all_goals (refine ow_cons ?_; first | refine kIndex ?_ | (refine kIdxR (fun g hg => ?_); subst hg) | (refine kIdxO (fun gb go hg => ?_); subst hg))
                all_goals refine wLoad ?_
                all_goals refine wNot ?_
                all_goals refine ow_nil ?_)
            | (
                refine cw_region (id := 45) rfl ?_
                all_goals refine wMove ?_
                all_goals refine wMove ?_
                all_goals refine wMove ?_
                all_goals (refine ow_cons ?_; first | refine kIndex ?_ | (refine kIdxR (fun g hg => ?_); subst hg) | (refine kIdxO (fun gb go hg => ?_); subst hg))
                all_goals refine wLoad ?_
                all_goals refine wAdd ?_
                all_goals refine wAssign ?_
                all_goals refine ow_nil ?_)
            | (
                refine cw_region (id := 43) rfl ?_
                all_goals refine wMove ?_
                all_goals refine wAdd ?_
                all_goals refine wAssign ?_
                all_goals refine ow_nil ?_)
            | (
                refine cw_region (id := 47) rfl ?_
                all_goals refine wAssign ?_
                all_goals refine ow_nil ?_)
            | (
                refine cw_region (id := 9) rfl ?_
                all_goals refine wMove ?_
                all_goals refine wAdd ?_
                all_goals refine wAssign ?_
                all_goals refine ow_nil ?_)
            | (
                refine cw_region (id := 48) rfl ?_
                all_goals refine wAssign ?_
                all_goals refine ow_nil ?_)
            | refine cw_seq ?_
            | refine tq_n ?_
            | (refine isCW ?_; first | refine cw_region rfl ?_ | refine cw_skip ?_ | refine cw_ret ?_ | refine cw_exit ?_ | refine cw_block ?_ | refine cT ?_ | refine cF ?_ | refine cTrue ?_ | refine cFalse ?_ | refine cS (fun hc => ?_) (fun hc => ?_) | refine cB (fun hc => ?_) (fun hc => ?_))
            | refine tq_ret ?_ | refine tq_exit ?_ | refine bq_n ?_ | refine bq_ret ?_ | refine bq_same ?_ | refine bq_ne rfl ?_
            | refine ow_cons ?_ | refine ow_nil ?_
            | (refine isOpK ?_; first
              | (refine isG ?_; first | refine opk_yes rfl rfl ?_ | refine opk_no rfl rfl ?_ | refine opk_no_undef rfl rfl ?_ | refine opk_g_t rfl rfl (by omega) ?_ | refine opk_g_f rfl rfl (by omega) ?_ | refine opk_g_s rfl rfl (fun hc => ?_) (fun hc => ?_) | refine opk_g_b rfl rfl (fun hc => ?_) (fun hc => ?_))
              | refine kRd ?_
              | refine kStore ?_
              | refine kStoreA ?_
              | refine kStoreR ?_
              | (refine kIdxR (fun g hg => ?_); subst hg)
              | (refine kIdxO (fun gb go hg => ?_); subst hg)
              | refine st_alloc (fun bN => ?_)
              | refine kBox (fun bN => ?_)
              | refine kBoxA (fun bN => ?_)
              | (refine st_buildSlice rfl rfl rfl rfl (fun bN => ?_))
              | (refine st_clearR rfl selA rfl (by omega) rfl rfl rfl ?_)
              | (refine st_clearR rfl selA (by omega) (by omega) rfl rfl rfl ?_))
            | refine hw_cons ?_ | refine hw_nil ?_
            | (refine isOpS ?_; first
              | (refine os_isG ?_; first | refine os_yes rfl rfl ?_ | refine os_no rfl rfl ?_ | refine os_no_undef rfl rfl ?_ | refine os_g_t rfl rfl (by omega) ?_ | refine os_g_f rfl rfl (by omega) ?_ | refine os_g_s rfl rfl (fun hc => ?_) (fun hc => ?_) | refine os_g_b rfl rfl (fun hc => ?_) (fun hc => ?_))
              | refine sRd ?_))
          exact lp_end (k + 1) ⟨rfl, rfl, rfl, rfl, rfl, rfl, rfl, congrArg i6 hsn.symm, rfl, trivial⟩ (by omega) (by omega) (fun w h => pickL h (.cons selA (.cons selA (.cons selA (.cons selA (selL_all _))))))
        · simp only [if_true, Int.add_zero] at hsn
          repeat' (first
            | (
                refine cw_region (id := 0) rfl ?_
                all_goals refine wAssign ?_
                all_goals refine ow_nil ?_)
            | (
                refine cw_region (id := 2) rfl ?_
                all_goals refine wAssign ?_
                all_goals refine ow_nil ?_)
            | (
                refine cw_region (id := 4) rfl ?_
                all_goals refine wAssign ?_
                all_goals refine ow_nil ?_)
            | (
                refine cw_region (id := 5) rfl ?_
                all_goals refine wAssign ?_
                all_goals refine ow_nil ?_)
            | (
                refine cw_region (id := 6) rfl ?_
                all_goals refine wAssign ?_
                all_goals refine ow_nil ?_)
            | (
                refine cw_region (id := 7) rfl ?_
                all_goals refine wAssign ?_
                all_goals refine ow_nil ?_)
            | (
                refine cw_region (id := 8) rfl ?_
                all_goals refine wMove ?_
                all_goals refine wMove ?_
                all_goals refine wLen ?_
                all_goals refine wLss ?_
                all_goals refine wMove ?_
                all_goals (refine ow_cons ?_; first | (refine gTt ?_; refine kMove ?_) | refine gFt ?_ | refine gNo ?_ | refine gUn ?_ | (refine gYes ?_; refine kMove ?_) | (refine gSt (fun hc => ?_) (fun hc => ?_); (focus (refine kMove ?_))) | (refine gBt (fun hc => ?_) (fun hc => ?_); (focus (refine kMove ?_))))
                all_goals (refine ow_cons ?_; first | (refine gTt ?_; refine kLss ?_) | refine gFt ?_ | refine gNo ?_ | refine gUn ?_ | (refine gYes ?_; refine kLss ?_) | (refine gSt (fun hc => ?_) (fun hc => ?_); (focus (refine kLss ?_))) | (refine gBt (fun hc => ?_) (fun hc => ?_); (focus (refine kLss ?_))))
                all_goals refine wPick ?_
                all_goals refine ow_nil ?_)
            | (
                refine cw_region (id := 10) rfl ?_
                all_goals refine wMove ?_
                all_goals refine wMove ?_
                all_goals (refine ow_cons ?_; first | refine kIndex ?_ | (refine kIdxR (fun g hg => ?_); subst hg) | (refine kIdxO (fun gb go hg => ?_); subst hg))
                all_goals refine wLoad ?_
                all_goals (refine ow_cons ?_; refine st_alloc (fun bN => ?_))
                all_goals (refine ow_cons ?_; first | refine kStore ?_ | refine kStoreA ?_ | refine kStoreR ?_)
                all_goals refine ow_nil ?_)
            | (
                refine cw_region (id := 11) rfl ?_
                all_goals refine wMove ?_
                all_goals refine wField ?_
                all_goals refine wLoad ?_
                all_goals refine wConv ?_
                all_goals refine wRem ?_
                all_goals refine wConv ?_
                all_goals refine wAdd ?_
                all_goals refine wMin ?_
                all_goals refine wAssign ?_
                all_goals refine ow_nil ?_)
            | (
                refine cw_region (id := 12) rfl ?_
                all_goals refine wAssign ?_
                all_goals refine ow_nil ?_)
            | (
                refine cw_region (id := 13) rfl ?_
                all_goals refine wField ?_
                all_goals refine wLoad ?_
                all_goals refine ow_nil ?_)
            | (
                refine cw_region (id := 18) rfl ?_
                all_goals refine wEql ?_
                all_goals refine wAssign ?_
                all_goals refine ow_nil ?_)
            | (
                refine cw_region (id := 19) rfl ?_
                all_goals refine wAssign ?_
                all_goals refine ow_nil ?_)
            | (
                refine cw_region (id := 20) rfl ?_
                all_goals refine wAssign ?_
                all_goals refine ow_nil ?_)
            | (
                refine cw_region (id := 21) rfl ?_
                all_goals refine wMove ?_
                all_goals refine wField ?_
                all_goals refine wLoad ?_
                all_goals refine wLen ?_
                all_goals refine wLss ?_
                all_goals refine wMove ?_
                all_goals (refine ow_cons ?_; first | (refine gTt ?_; refine kMove ?_) | refine gFt ?_ | refine gNo ?_ | refine gUn ?_ | (refine gYes ?_; refine kMove ?_) | (refine gSt (fun hc => ?_) (fun hc => ?_); (focus (refine kMove ?_))) | (refine gBt (fun hc => ?_) (fun hc => ?_); (focus (refine kMove ?_))))
                all_goals (refine ow_cons ?_; first | (refine gTt ?_; refine kLss ?_) | refine gFt ?_ | refine gNo ?_ | refine gUn ?_ | (refine gYes ?_; refine kLss ?_) | (refine gSt (fun hc => ?_) (fun hc => ?_); (focus (refine kLss ?_))) | (refine gBt (fun hc => ?_) (fun hc => ?_); (focus (refine kLss ?_))))
                all_goals refine wPick ?_
                all_goals refine wMove ?_
                all_goals (refine ow_cons ?_; first | (refine gTt ?_; refine kMove ?_) | refine gFt ?_ | refine gNo ?_ | refine gUn ?_ | (refine gYes ?_; refine kMove ?_) | (refine gSt (fun hc => ?_) (fun hc => ?_); (focus (refine kMove ?_))) | (refine gBt (fun hc => ?_) (fun hc => ?_); (focus (refine kMove ?_))))
                all_goals (refine ow_cons ?_; first | (refine gTt ?_; refine kLen ?_) | refine gFt ?_ | refine gNo ?_ | refine gUn ?_ | (refine gYes ?_; refine kLen ?_) | (refine gSt (fun hc => ?_) (fun hc => ?_); (focus (refine kLen ?_))) | (refine gBt (fun hc => ?_) (fun hc => ?_); (focus (refine kLen ?_))))
                all_goals (refine ow_cons ?_; first | (refine gTt ?_; refine kGtr ?_) | refine gFt ?_ | refine gNo ?_ | refine gUn ?_ | (refine gYes ?_; refine kGtr ?_) | (refine gSt (fun hc => ?_) (fun hc => ?_); (focus (refine kGtr ?_))) | (refine gBt (fun hc => ?_) (fun hc => ?_); (focus (refine kGtr ?_))))
                all_goals refine wPick ?_
                all_goals refine ow_nil ?_)
            | (
                refine cw_draw (id := 23) 26 (by kernel_rfl) (by kernel_rfl) rfl ?_
                all_goals refine hField ?_
                all_goals refine hLoad ?_
                all_goals refine hMove ?_
                all_goals refine hIndex ?_
                all_goals refine hField ?_
                all_goals refine hLoad ?_
                all_goals refine hConv ?_
                all_goals refine hMove ?_
                all_goals refine hLen ?_
                all_goals refine hConv ?_
                all_goals refine hRem ?_
                all_goals refine hConv ?_
                all_goals refine hField ?_
                all_goals refine hLoad ?_
                all_goals refine hMove ?_
                all_goals refine hIndex ?_
                all_goals refine hField ?_
                all_goals refine hLoad ?_
                all_goals refine hConv ?_
                all_goals refine hMove ?_
                all_goals refine hLen ?_
                all_goals refine hConv ?_
                all_goals refine hRem ?_
                all_goals refine hConv ?_
                all_goals refine hAssign ?_
                all_goals refine hAssign ?_
                all_goals refine hw_nil ?_
                all_goals refine ow_nil ?_)
            | (
                refine cw_region (id := 22) rfl ?_
                all_goals refine wMove ?_
                all_goals refine wAdd ?_
                all_goals refine wAssign ?_
                all_goals refine ow_nil ?_)
            | (
                refine cw_region (id := 26) rfl ?_
                all_goals refine wMove ?_
                all_goals refine wNeq ?_
                all_goals refine ow_nil ?_)
            | (
                refine cw_region (id := 27) rfl ?_
                all_goals refine wAssign ?_
                all_goals refine ow_nil ?_)
            | (
                refine cw_region (id := 29) rfl ?_
                all_goals refine wEql ?_
                all_goals refine wAssign ?_
                all_goals refine ow_nil ?_)
            | (
                refine cw_region (id := 31) rfl ?_
                all_goals refine wMove ?_
                all_goals refine wNeq ?_
                all_goals refine ow_nil ?_)
            | (
                refine cw_region (id := 32) rfl ?_
                all_goals refine wAssign ?_
                all_goals refine ow_nil ?_)
            | (
                refine cw_region (id := 33) rfl ?_
                all_goals refine wMove ?_
                all_goals refine wAssign ?_
                all_goals refine ow_nil ?_)
            | (
                refine cw_region (id := 14) rfl ?_
                all_goals refine wField ?_
                all_goals refine wLoad ?_
                all_goals refine wConv ?_
                all_goals refine wRem ?_
                all_goals refine wConv ?_
                all_goals refine wAdd ?_
                all_goals refine wAssign ?_
                all_goals refine ow_nil ?_)
            | (
                refine cw_region (id := 16) rfl ?_
                all_goals refine wAssign ?_
                all_goals refine ow_nil ?_)
            | (
                refine cw_region (id := 34) rfl ?_
                all_goals refine wAssign ?_
                all_goals refine ow_nil ?_)
            | (
                refine cw_region (id := 35) rfl ?_
                all_goals refine wMove ?_
                all_goals refine wMove ?_
                all_goals refine wLen ?_
                all_goals refine wLss ?_
                all_goals refine ow_nil ?_)
            | (
                refine cw_region (id := 37) rfl ?_
                all_goals refine wMove ?_
                all_goals refine wMove ?_
                all_goals (refine ow_cons ?_; first | refine kIndex ?_ | (refine kIdxR (fun g hg => ?_); subst hg) | (refine kIdxO (fun gb go hg => ?_); subst hg))
                all_goals refine wLoad ?_
                all_goals refine wLss ?_
                all_goals refine wMove ?_
                all_goals (refine ow_cons ?_; first | (refine gTf ?_; refine kMove ?_) | refine gFf ?_ | refine gNo ?_ | refine gUn ?_ | (refine gYes ?_; refine kMove ?_) | (refine gSf (fun hc => ?_) (fun hc => ?_); rotate_left; (focus (refine kMove ?_)); rotate_right) | (refine gBf (fun hc => ?_) (fun hc => ?_); rotate_left; (focus (refine kMove ?_)); rotate_right))
                all_goals (refine ow_cons ?_; first | (refine gTf ?_; refine kMove ?_) | refine gFf ?_ | refine gNo ?_ | refine gUn ?_ | (refine gYes ?_; refine kMove ?_) | (refine gSf (fun hc => ?_) (fun hc => ?_); rotate_left; (focus (refine kMove ?_)); rotate_right) | (refine gBf (fun hc => ?_) (fun hc => ?_); rotate_left; (focus (refine kMove ?_)); rotate_right))
                all_goals (refine ow_cons ?_; first | (refine gTf ?_; first | refine kIndex ?_ | (refine kIdxR (fun g hg => ?_); subst hg) | (refine kIdxO (fun gb go hg => ?_); subst hg)) | refine gFf ?_ | refine gNo ?_ | refine gUn ?_ | (refine gYes ?_; first | refine kIndex ?_ | (refine kIdxR (fun g hg => ?_); subst hg) | (refine kIdxO (fun gb go hg => ?_); subst hg)) | (refine gSf (fun hc => ?_) (fun hc => ?_); rotate_left; (focus (first | refine kIndex ?_ | (refine kIdxR (fun g hg => ?_); subst hg) | (refine kIdxO (fun gb go hg => ?_); subst hg))); rotate_right) | (refine gBf (fun hc => ?_) (fun hc => ?_); rotate_left; (focus (first | refine kIndex ?_ | (refine kIdxR (fun g hg => ?_); subst hg) | (refine kIdxO (fun gb go hg => ?_); subst hg))); rotate_right))
                all_goals (refine ow_cons ?_; first | (refine gTf ?_; refine kLoad ?_) | refine gFf ?_ | refine gNo ?_ | refine gUn ?_ | (refine gYes ?_; refine kLoad ?_) | (refine gSf (fun hc => ?_) (fun hc => ?_); rotate_left; (focus (refine kLoad ?_)); rotate_right) | (refine gBf (fun hc => ?_) (fun hc => ?_); rotate_left; (focus (refine kLoad ?_)); rotate_right))
                all_goals (refine ow_cons ?_; first | (refine gTf ?_; refine kMove ?_) | refine gFf ?_ | refine gNo ?_ | refine gUn ?_ | (refine gYes ?_; refine kMove ?_) | (refine gSf (fun hc => ?_) (fun hc => ?_); rotate_left; (focus (refine kMove ?_)); rotate_right) | (refine gBf (fun hc => ?_) (fun hc => ?_); rotate_left; (focus (refine kMove ?_)); rotate_right))
                all_goals (refine ow_cons ?_; first | (refine gTf ?_; refine kLen ?_) | refine gFf ?_ | refine gNo ?_ | refine gUn ?_ | (refine gYes ?_; refine kLen ?_) | (refine gSf (fun hc => ?_) (fun hc => ?_); rotate_left; (focus (refine kLen ?_)); rotate_right) | (refine gBf (fun hc => ?_) (fun hc => ?_); rotate_left; (focus (refine kLen ?_)); rotate_right))
                all_goals (refine ow_cons ?_; first | (refine gTf ?_; refine kGeq ?_) | refine gFf ?_ | refine gNo ?_ | refine gUn ?_ | (refine gYes ?_; refine kGeq ?_) | (refine gSf (fun hc => ?_) (fun hc => ?_); rotate_left; (focus (refine kGeq ?_)); rotate_right) | (refine gBf (fun hc => ?_) (fun hc => ?_); rotate_left; (focus (refine kGeq ?_)); rotate_right))
                all_goals refine wPick ?_
                all_goals refine wMove ?_
                all_goals (refine ow_cons ?_; first | (refine gTf ?_; refine kMove ?_) | refine gFf ?_ | refine gNo ?_ | refine gUn ?_ | (refine gYes ?_; refine kMove ?_) | (refine gSf (fun hc => ?_) (fun hc => ?_); rotate_left; (focus (refine kMove ?_)); rotate_right) | (refine gBf (fun hc => ?_) (fun hc => ?_); rotate_left; (focus (refine kMove ?_)); rotate_right))
                all_goals (refine ow_cons ?_; first | (refine gTf ?_; refine kMove ?_) | refine gFf ?_ | refine gNo ?_ | refine gUn ?_ | (refine gYes ?_; refine kMove ?_) | (refine gSf (fun hc => ?_) (fun hc => ?_); rotate_left; (focus (refine kMove ?_)); rotate_right) | (refine gBf (fun hc => ?_) (fun hc => ?_); rotate_left; (focus (refine kMove ?_)); rotate_right))
                all_goals (refine ow_cons ?_; first | (refine gTf ?_; refine kMove ?_) | refine gFf ?_ | refine gNo ?_ | refine gUn ?_ | (refine gYes ?_; refine kMove ?_) | (refine gSf (fun hc => ?_) (fun hc => ?_); rotate_left; (focus (refine kMove ?_)); rotate_right) | (refine gBf (fun hc => ?_) (fun hc => ?_); rotate_left; (focus (refine kMove ?_)); rotate_right))
                all_goals (refine ow_cons ?_; first | (refine gTf ?_; first | refine kIndex ?_ | (refine kIdxR (fun g hg => ?_); subst hg) | (refine kIdxO (fun gb go hg => ?_); subst hg)) | refine gFf ?_ | refine gNo ?_ | refine gUn ?_ | (refine gYes ?_; first | refine kIndex ?_ | (refine kIdxR (fun g hg => ?_); subst hg) | (refine kIdxO (fun gb go hg => ?_); subst hg)) | (refine gSf (fun hc => ?_) (fun hc => ?_); rotate_left; (focus (first | refine kIndex ?_ | (refine kIdxR (fun g hg => ?_); subst hg) | (refine kIdxO (fun gb go hg => ?_); subst hg))); rotate_right) | (refine gBf (fun hc => ?_) (fun hc => ?_); rotate_left; (focus (first | refine kIndex ?_ | (refine kIdxR (fun g hg => ?_); subst hg) | (refine kIdxO (fun gb go hg => ?_); subst hg))); rotate_right))
                all_goals (refine ow_cons ?_; first | (refine gTf ?_; refine kLoad ?_) | refine gFf ?_ | refine gNo ?_ | refine gUn ?_ | (refine gYes ?_; refine kLoad ?_) | (refine gSf (fun hc => ?_) (fun hc => ?_); rotate_left; (focus (refine kLoad ?_)); rotate_right) | (refine gBf (fun hc => ?_) (fun hc => ?_); rotate_left; (focus (refine kLoad ?_)); rotate_right))
                all_goals (refine ow_cons ?_; first | (refine gTf ?_; first | refine kIndex ?_ | (refine kIdxR (fun g hg => ?_); subst hg) | (refine kIdxO (fun gb go hg => ?_); subst hg)) | refine gFf ?_ | refine gNo ?_ | refine gUn ?_ | (refine gYes ?_; first | refine kIndex ?_ | (refine kIdxR (fun g hg => ?_); subst hg) | (refine kIdxO (fun gb go hg => ?_); subst hg)) | (refine gSf (fun hc => ?_) (fun hc => ?_); rotate_left; (focus (first | refine kIndex ?_ | (refine kIdxR (fun g hg => ?_); subst hg) | (refine kIdxO (fun gb go hg => ?_); subst hg))); rotate_right) | (refine gBf (fun hc => ?_) (fun hc => ?_); rotate_left; (focus (first | refine kIndex ?_ | (refine kIdxR (fun g hg => ?_); subst hg) | (refine kIdxO (fun gb go hg => ?_); subst hg))); rotate_right))
                all_goals (refine ow_cons ?_; first | (refine gTf ?_; refine kLoad ?_) | refine gFf ?_ | refine gNo ?_ | refine gUn ?_ | (refine gYes ?_; refine kLoad ?_) | (refine gSf (fun hc => ?_) (fun hc => ?_); rotate_left; (focus (refine kLoad ?_)); rotate_right) | (refine gBf (fun hc => ?_) (fun hc => ?_); rotate_left; (focus (refine kLoad ?_)); rotate_right))
                all_goals refine wPick ?_
                all_goals refine ow_nil ?_)
            | (
                refine cw_region (id := 38) rfl ?_
                all_goals refine wAssign ?_
                all_goals refine ow_nil ?_)
            | (
                refine cw_region (id := 39) rfl ?_
                all_goals refine wMove ?_
                all_goals refine wMove ?_
                all_goals refine wMove ?_
                all_goals (refine ow_cons ?_; first | refine kIndex ?_ | (refine kIdxR (fun g hg => ?_); subst hg) | (refine kIdxO (fun gb go hg => ?_); subst hg))
                all_goals refine wLoad ?_
                all_goals (refine ow_cons ?_; first | refine kIndex ?_ | (refine kIdxR (fun g hg => ?_); subst hg) | (refine kIdxO (fun gb go hg => ?_); subst hg))
                all_goals (refine ow_cons ?_; first | refine kStore ?_ | refine kStoreA ?_ | refine kStoreR ?_)
                all_goals refine ow_nil ?_)
            | (
                refine cw_region (id := 36) rfl ?_
                all_goals refine wMove ?_
                all_goals refine wAdd ?_
                all_goals refine wAssign ?_
                all_goals refine ow_nil ?_)
            | (
                refine cw_region (id := 40) rfl ?_
                all_goals refine wAssign ?_
                all_goals refine ow_nil ?_)
            | (
                refine cw_region (id := 41) rfl ?_
                all_goals refine wAssign ?_
                all_goals refine ow_nil ?_)
            | (
                refine cw_region (id := 42) rfl ?_
                all_goals refine wMove ?_
                all_goals refine wMove ?_
                all_goals refine wLen ?_
                all_goals refine wLss ?_
                all_goals refine ow_nil ?_)
            | (
                refine cw_region (id := 44) rfl ?_
                all_goals refine wMove ?_
                all_goals refine wMove ?_
                all_goals (refine ow_cons ?_; first | refine kIndex ?_ | (refine kIdxR (fun g hg => ?_); subst hg) | (refine kIdxO (fun gb go hg => ?_); subst hg))
                all_goals refine wLoad ?_
                all_goals refine wNot ?_
                all_goals refine ow_nil ?_)
            | (
                refine cw_region (id := 45) rfl ?_
                all_goals refine wMove ?_
                all_goals refine wMove ?_
                all_goals refine wMove ?_
                all_goals (refine ow_cons ?_; first | refine kIndex ?_ | (refine kIdxR (fun g hg => ?_); subst hg) | (refine kIdxO (fun gb go hg => ?_); subst hg))
                all_goals refine wLoad ?_
                all_goals refine wAdd ?_
                all_goals refine wAssign ?_
                all_goals refine ow_nil ?_)
            | (
                refine cw_region (id := 43) rfl ?_
                all_goals refine wMove ?_
                all_goals refine wAdd ?_
                all_goals refine wAssign ?_
                all_goals refine ow_nil ?_)
            | (
                refine cw_region (id := 47) rfl ?_
                all_goals refine wAssign ?_
                all_goals refine ow_nil ?_)
            | (
                refine cw_region (id := 9) rfl ?_
                all_goals refine wMove ?_
                all_goals refine wAdd ?_
                all_goals refine wAssign ?_
                all_goals refine ow_nil ?_)
            | (
                refine cw_region (id := 48) rfl ?_
                all_goals refine wAssign ?_
                all_goals refine ow_nil ?_)
            | refine cw_seq ?_
            | refine tq_n ?_
            | (refine isCW ?_; first | refine cw_region rfl ?_ | refine cw_skip ?_ | refine cw_ret ?_ | refine cw_exit ?_ | refine cw_block ?_ | refine cT ?_ | refine cF ?_ | refine cTrue ?_ | refine cFalse ?_ | refine cS (fun hc => ?_) (fun hc => ?_) | refine cB (fun hc => ?_) (fun hc => ?_))
            | refine tq_ret ?_ | refine tq_exit ?_ | refine bq_n ?_ | refine bq_ret ?_ | refine bq_same ?_ | refine bq_ne rfl ?_
            | refine ow_cons ?_ | refine ow_nil ?_
            | (refine isOpK ?_; first
              | (refine isG ?_; first | refine opk_yes rfl rfl ?_ | refine opk_no rfl rfl ?_ | refine opk_no_undef rfl rfl ?_ | refine opk_g_t rfl rfl (by omega) ?_ | refine opk_g_f rfl rfl (by omega) ?_ | refine opk_g_s rfl rfl (fun hc => ?_) (fun hc => ?_) | refine opk_g_b rfl rfl (fun hc => ?_) (fun hc => ?_))
              | refine kRd ?_
              | refine kStore ?_
              | refine kStoreA ?_
              | refine kStoreR ?_
              | (refine kIdxR (fun g hg => ?_); subst hg)
              | (refine kIdxO (fun gb go hg => ?_); subst hg)
              | refine st_alloc (fun bN => ?_)
              | refine kBox (fun bN => ?_)
              | refine kBoxA (fun bN => ?_)
              | (refine st_buildSlice rfl rfl rfl rfl (fun bN => ?_))
              | (refine st_clearR rfl selA rfl (by omega) rfl rfl rfl ?_)
              | (refine st_clearR rfl selA (by omega) (by omega) rfl rfl rfl ?_))
            | refine hw_cons ?_ | refine hw_nil ?_
            | (refine isOpS ?_; first
              | (refine os_isG ?_; first | refine os_yes rfl rfl ?_ | refine os_no rfl rfl ?_ | refine os_no_undef rfl rfl ?_ | refine os_g_t rfl rfl (by omega) ?_ | refine os_g_f rfl rfl (by omega) ?_ | refine os_g_s rfl rfl (fun hc => ?_) (fun hc => ?_) | refine os_g_b rfl rfl (fun hc => ?_) (fun hc => ?_))
              | refine sRd ?_))
          exact lp_end (k + 1) ⟨rfl, rfl, rfl, rfl, rfl, rfl, rfl, congrArg i6 hsn.symm, rfl, trivial⟩ (by omega) (by omega) (fun w h => pickL h (.cons selA (.cons selA (.cons selA (.cons selA (selL_all _))))))
      · have hke : k = lj.length := by omega
        subst hke
        rw [List.take_length]
        repeat' (first
          | (
              refine cw_region (id := 0) rfl ?_
              all_goals refine wAssign ?_
              all_goals refine ow_nil ?_)
          | (
              refine cw_region (id := 2) rfl ?_
              all_goals refine wAssign ?_
              all_goals refine ow_nil ?_)
          | (
              refine cw_region (id := 4) rfl ?_
              all_goals refine wAssign ?_
              all_goals refine ow_nil ?_)
          | (
              refine cw_region (id := 5) rfl ?_
              all_goals refine wAssign ?_
              all_goals refine ow_nil ?_)
          | (
              refine cw_region (id := 6) rfl ?_
              all_goals refine wAssign ?_
              all_goals refine ow_nil ?_)
          | (
              refine cw_region (id := 7) rfl ?_
              all_goals refine wAssign ?_
              all_goals refine ow_nil ?_)
          | (
              refine cw_region (id := 8) rfl ?_
              all_goals refine wMove ?_
              all_goals refine wMove ?_
              all_goals refine wLen ?_
              all_goals refine wLss ?_
              all_goals refine wMove ?_
              all_goals (refine ow_cons ?_; first | (refine gTt ?_; refine kMove ?_) | refine gFt ?_ | refine gNo ?_ | refine gUn ?_ | (refine gYes ?_; refine kMove ?_) | (refine gSt (fun hc => ?_) (fun hc => ?_); (focus (refine kMove ?_))) | (refine gBt (fun hc => ?_) (fun hc => ?_); (focus (refine kMove ?_))))
              all_goals (refine ow_cons ?_; first | (refine gTt ?_; refine kLss ?_) | refine gFt ?_ | refine gNo ?_ | refine gUn ?_ | (refine gYes ?_; refine kLss ?_) | (refine gSt (fun hc => ?_) (fun hc => ?_); (focus (refine kLss ?_))) | (refine gBt (fun hc => ?_) (fun hc => ?_); (focus (refine kLss ?_))))
              all_goals refine wPick ?_
              all_goals refine ow_nil ?_)
          | (
              refine cw_region (id := 10) rfl ?_
              all_goals refine wMove ?_
              all_goals refine wMove ?_
              all_goals (refine ow_cons ?_; first | refine kIndex ?_ | (refine kIdxR (fun g hg => ?_); subst hg) | (refine kIdxO (fun gb go hg => ?_); subst hg))
              all_goals refine wLoad ?_
              all_goals (refine ow_cons ?_; refine st_alloc (fun bN => ?_))
              all_goals (refine ow_cons ?_; first | refine kStore ?_ | refine kStoreA ?_ | refine kStoreR ?_)
              all_goals refine ow_nil ?_)
          | (
              refine cw_region (id := 11) rfl ?_
              all_goals refine wMove ?_
              all_goals refine wField ?_
              all_goals refine wLoad ?_
              all_goals refine wConv ?_
              all_goals refine wRem ?_
              all_goals refine wConv ?_
              all_goals refine wAdd ?_
              all_goals refine wMin ?_
              all_goals refine wAssign ?_
              all_goals refine ow_nil ?_)
          | (
              refine cw_region (id := 12) rfl ?_
              all_goals refine wAssign ?_
              all_goals refine ow_nil ?_)
          | (
              refine cw_region (id := 13) rfl ?_
              all_goals refine wField ?_
              all_goals refine wLoad ?_
              all_goals refine ow_nil ?_)
          | (
              refine cw_region (id := 18) rfl ?_
              all_goals refine wEql ?_
              all_goals refine wAssign ?_
              all_goals refine ow_nil ?_)
          | (
              refine cw_region (id := 19) rfl ?_
              all_goals refine wAssign ?_
              all_goals refine ow_nil ?_)
          | (
              refine cw_region (id := 20) rfl ?_
              all_goals refine wAssign ?_
              all_goals refine ow_nil ?_)
          | (
              refine cw_region (id := 21) rfl ?_
              all_goals refine wMove ?_
              all_goals refine wField ?_
              all_goals refine wLoad ?_
              all_goals refine wLen ?_
              all_goals refine wLss ?_
              all_goals refine wMove ?_
              all_goals (refine ow_cons ?_; first | (refine gTt ?_; refine kMove ?_) | refine gFt ?_ | refine gNo ?_ | refine gUn ?_ | (refine gYes ?_; refine kMove ?_) | (refine gSt (fun hc => ?_) (fun hc => ?_); (focus (refine kMove ?_))) | (refine gBt (fun hc => ?_) (fun hc => ?_); (focus (refine kMove ?_))))
              all_goals (refine ow_cons ?_; first | (refine gTt ?_; refine kLss ?_) | refine gFt ?_ | refine gNo ?_ | refine gUn ?_ | (refine gYes ?_; refine kLss ?_) | (refine gSt (fun hc => ?_) (fun hc => ?_); (focus (refine kLss ?_))) | (refine gBt (fun hc => ?_) (fun hc => ?_); (focus (refine kLss ?_))))
              all_goals refine wPick ?_
              all_goals refine wMove ?_
              all_goals (refine ow_cons ?_; first | (refine gTt ?_; refine kMove ?_) | refine gFt ?_ | refine gNo ?_ | refine gUn ?_ | (refine gYes ?_; refine kMove ?_) | (refine gSt (fun hc => ?_) (fun hc => ?_); (focus (refine kMove ?_))) | (refine gBt (fun hc => ?_) (fun hc => ?_); (focus (refine kMove ?_))))
              all_goals (refine ow_cons ?_; first | (refine gTt ?_; refine kLen ?_) | refine gFt ?_ | refine gNo ?_ | refine gUn ?_ | (refine gYes ?_; refine kLen ?_) | (refine gSt (fun hc => ?_) (fun hc => ?_); (focus (refine kLen ?_))) | (refine gBt (fun hc => ?_) (fun hc => ?_); (focus (refine kLen ?_))))
              all_goals (refine ow_cons ?_; first | (refine gTt ?_; refine kGtr ?_) | refine gFt ?_ | refine gNo ?_ | refine gUn ?_ | (refine gYes ?_; refine kGtr ?_) | (refine gSt (fun hc => ?_) (fun hc => ?_); (focus (refine kGtr ?_))) | (refine gBt (fun hc => ?_) (fun hc => ?_); (focus (refine kGtr ?_))))
              all_goals refine wPick ?_
              all_goals refine ow_nil ?_)
          | (
              refine cw_draw (id := 23) 26 (by kernel_rfl) (by kernel_rfl) rfl ?_
              all_goals refine hField ?_
              all_goals refine hLoad ?_
              all_goals refine hMove ?_
              all_goals refine hIndex ?_
              all_goals refine hField ?_
              all_goals refine hLoad ?_
              all_goals refine hConv ?_
              all_goals refine hMove ?_
              all_goals refine hLen ?_
              all_goals refine hConv ?_
              all_goals refine hRem ?_
              all_goals refine hConv ?_
              all_goals refine hField ?_
              all_goals refine hLoad ?_
              all_goals refine hMove ?_
              all_goals refine hIndex ?_
              all_goals refine hField ?_
              all_goals refine hLoad ?_
              all_goals refine hConv ?_
              all_goals refine hMove ?_
              all_goals refine hLen ?_
              all_goals refine hConv ?_
              all_goals refine hRem ?_
              all_goals refine hConv ?_
              all_goals refine hAssign ?_
              all_goals refine hAssign ?_
              all_goals refine hw_nil ?_
              all_goals refine ow_nil ?_)
          | (
              refine cw_region (id := 22) rfl ?_
              all_goals refine wMove ?_
              all_goals refine wAdd ?_
              all_goals refine wAssign ?_
              all_goals refine ow_nil ?_)
          | (
              refine cw_region (id := 26) rfl ?_
              all_goals refine wMove ?_
              all_goals refine wNeq ?_
              all_goals refine ow_nil ?_)
          | (
              refine cw_region (id := 27) rfl ?_
              all_goals refine wAssign ?_
              all_goals refine ow_nil ?_)
          | (
              refine cw_region (id := 29) rfl ?_
              all_goals refine wEql ?_
              all_goals refine wAssign ?_
              all_goals refine ow_nil ?_)
          | (
              refine cw_region (id := 31) rfl ?_
              all_goals refine wMove ?_
              all_goals refine wNeq ?_
              all_goals refine ow_nil ?_)
          | (
              refine cw_region (id := 32) rfl ?_
              all_goals refine wAssign ?_
              all_goals refine ow_nil ?_)
          | (
              refine cw_region (id := 33) rfl ?_
              all_goals refine wMove ?_
              all_goals refine wAssign ?_
              all_goals refine ow_nil ?_)
          | (
              refine cw_region (id := 14) rfl ?_
              all_goals refine wField ?_
              all_goals refine wLoad ?_
              all_goals refine wConv ?_
              all_goals refine wRem ?_
              all_goals refine wConv ?_
              all_goals refine wAdd ?_
              all_goals refine wAssign ?_
              all_goals refine ow_nil ?_)
          | (
              refine cw_region (id := 16) rfl ?_
              all_goals refine wAssign ?_
              all_goals refine ow_nil ?_)
          | (
              refine cw_region (id := 34) rfl ?_
              all_goals refine wAssign ?_
              all_goals refine ow_nil ?_)
          | (
              refine cw_region (id := 35) rfl ?_
              all_goals refine wMove ?_
              all_goals refine wMove ?_
              all_goals refine wLen ?_
              all_goals refine wLss ?_
              all_goals refine ow_nil ?_)
          | (
              refine cw_region (id := 37) rfl ?_
              all_goals refine wMove ?_
              all_goals refine wMove ?_
              all_goals (refine ow_cons ?_; first | refine kIndex ?_ | (refine kIdxR (fun g hg => ?_); subst hg) | (refine kIdxO (fun gb go hg => ?_); subst hg))
              all_goals refine wLoad ?_
              all_goals refine wLss ?_
              all_goals refine wMove ?_
              all_goals (refine ow_cons ?_; first | (refine gTf ?_; refine kMove ?_) | refine gFf ?_ | refine gNo ?_ | refine gUn ?_ | (refine gYes ?_; refine kMove ?_) | (refine gSf (fun hc => ?_) (fun hc => ?_); rotate_left; (focus (refine kMove ?_)); rotate_right) | (refine gBf (fun hc => ?_) (fun hc => ?_); rotate_left; (focus (refine kMove ?_)); rotate_right))
              all_goals (refine ow_cons ?_; first | (refine gTf ?_; refine kMove ?_) | refine gFf ?_ | refine gNo ?_ | refine gUn ?_ | (refine gYes ?_; refine kMove ?_) | (refine gSf (fun hc => ?_) (fun hc => ?_); rotate_left; (focus (refine kMove ?_)); rotate_right) | (refine gBf (fun hc => ?_) (fun hc => ?_); rotate_left; (focus (refine kMove ?_)); rotate_right))
              all_goals (refine ow_cons ?_; first | (refine gTf ?_; first | refine kIndex ?_ | (refine kIdxR (fun g hg => ?_); subst hg) | (refine kIdxO (fun gb go hg => ?_); subst hg)) | refine gFf ?_ | refine gNo ?_ | refine gUn ?_ | (refine gYes ?_; first | refine kIndex ?_ | (refine kIdxR (fun g hg => ?_); subst hg) | (refine kIdxO (fun gb go hg => ?_); subst hg)) | (refine gSf (fun hc => ?_) (fun hc => ?_); rotate_left; (focus (first | refine kIndex ?_ | (refine kIdxR (fun g hg => ?_); subst hg) | (refine kIdxO (fun gb go hg => ?_); subst hg))); rotate_right) | (refine gBf (fun hc => ?_) (fun hc => ?_); rotate_left; (focus (first | refine kIndex ?_ | (refine kIdxR (fun g hg => ?_); subst hg) | (refine kIdxO (fun gb go hg => ?_); subst hg))); rotate_right))
              all_goals (refine ow_cons ?_; first | (refine gTf ?_; refine kLoad ?_) | refine gFf ?_ | refine gNo ?_ | refine gUn ?_ | (refine gYes ?_; refine kLoad ?_) | (refine gSf (fun hc => ?_) (fun hc => ?_); rotate_left; (focus (refine kLoad ?_)); rotate_right) | (refine gBf (fun hc => ?_) (fun hc => ?_); rotate_left; (focus (refine kLoad ?_)); rotate_right))
              all_goals (refine ow_cons ?_; first | (refine gTf ?_; refine kMove ?_) | refine gFf ?_ | refine gNo ?_ | refine gUn ?_ | (refine gYes ?_; refine kMove ?_) | (refine gSf (fun hc => ?_) (fun hc => ?_); rotate_left; (focus (refine kMove ?_)); rotate_right) | (refine gBf (fun hc => ?_) (fun hc => ?_); rotate_left; (focus (refine kMove ?_)); rotate_right))
              all_goals (refine ow_cons ?_; first | (refine gTf ?_; refine kLen ?_) | refine gFf ?_ | refine gNo ?_ | refine gUn ?_ | (refine gYes ?_; refine kLen ?_) | (refine gSf (fun hc => ?_) (fun hc => ?_); rotate_left; (focus (refine kLen ?_)); rotate_right) | (refine gBf (fun hc => ?_) (fun hc => ?_); rotate_left; (focus (refine kLen ?_)); rotate_right))
              all_goals (refine ow_cons ?_; first | (refine gTf ?_; refine kGeq ?_) | refine gFf ?_ | refine gNo ?_ | refine gUn ?_ | (refine gYes ?_; refine kGeq ?_) | (refine gSf (fun hc => ?_) (fun hc => ?_); rotate_left; (focus (refine kGeq ?_)); rotate_right) | (refine gBf (fun hc => ?_) (fun hc => ?_); rotate_left; (focus (refine kGeq ?_)); rotate_right))
              all_goals refine wPick ?_
              all_goals refine wMove ?_
              all_goals (refine ow_cons ?_; first | (refine gTf ?_; refine kMove ?_) | refine gFf ?_ | refine gNo ?_ | refine gUn ?_ | (refine gYes ?_; refine kMove ?_) | (refine gSf (fun hc => ?_) (fun hc => ?_); rotate_left; (focus (refine kMove ?_)); rotate_right) | (refine gBf (fun hc => ?_) (fun hc => ?_); rotate_left; (focus (refine kMove ?_)); rotate_right))
              all_goals (refine ow_cons ?_; first | (refine gTf ?_; refine kMove ?_) | refine gFf ?_ | refine gNo ?_ | refine gUn ?_ | (refine gYes ?_; refine kMove ?_) | (refine gSf (fun hc => ?_) (fun hc => ?_); rotate_left; (focus (refine kMove ?_)); rotate_right) | (refine gBf (fun hc => ?_) (fun hc => ?_); rotate_left; (focus (refine kMove ?_)); rotate_right))
              all_goals (refine ow_cons ?_; first | (refine gTf ?_; refine kMove ?_) | refine gFf ?_ | refine gNo ?_ | refine gUn ?_ | (refine gYes ?_; refine kMove ?_) | (refine gSf (fun hc => ?_) (fun hc => ?_); rotate_left; (focus (refine kMove ?_)); rotate_right) | (refine gBf (fun hc => ?_) (fun hc => ?_); rotate_left; (focus (refine kMove ?_)); rotate_right))
              all_goals (refine ow_cons ?_; first | (refine gTf ?_; first | refine kIndex ?_ | (refine kIdxR (fun g hg => ?_); subst hg) | (refine kIdxO (fun gb go hg => ?_); subst hg)) | refine gFf ?_ | refine gNo ?_ | refine gUn ?_ | (refine gYes ?_; first | refine kIndex ?_ | (refine kIdxR (fun g hg => ?_); subst hg) | (refine kIdxO (fun gb go hg => ?_); subst hg)) | (refine gSf (fun hc => ?_) (fun hc => ?_); rotate_left; (focus (first | refine kIndex ?_ | (refine kIdxR (fun g hg => ?_); subst hg) | (refine kIdxO (fun gb go hg => ?_); subst hg))); rotate_right) | (refine gBf (fun hc => ?_) (fun hc => ?_); rotate_left; (focus (first | refine kIndex ?_ | (refine kIdxR (fun g hg => ?_); subst hg) | (refine kIdxO (fun gb go hg => ?_); subst hg))); rotate_right))
              all_goals (refine ow_cons ?_; first | (refine gTf ?_; refine kLoad ?_) | refine gFf ?_ | refine gNo ?_ | refine gUn ?_ | (refine gYes ?_; refine kLoad ?_) | (refine gSf (fun hc => ?_) (fun hc => ?_); rotate_left; (focus (refine kLoad ?_)); rotate_right) | (refine gBf (fun hc => ?_) (fun hc => ?_); rotate_left; (focus (refine kLoad ?_)); rotate_right))
              all_goals (refine ow_cons ?_; first | (refine gTf ?_; first | refine kIndex ?_ | (refine kIdxR (fun g hg => ?_); subst hg) | (refine kIdxO (fun gb go hg => ?_); subst hg)) | refine gFf ?_ | refine gNo ?_ | refine gUn ?_ | (refine gYes ?_; first | refine kIndex ?_ | (refine kIdxR (fun g hg => ?_); subst hg) | (refine kIdxO (fun gb go hg => ?_); subst hg)) | (refine gSf (fun hc => ?_) (fun hc => ?_); rotate_left; (focus (first | refine kIndex ?_ | (refine kIdxR (fun g hg => ?_); subst hg) | (refine kIdxO (fun gb go hg => ?_); subst hg))); rotate_right) | (refine gBf (fun hc => ?_) (fun hc => ?_); rotate_left; (focus (first | refine kIndex ?_ | (refine kIdxR (fun g hg => ?_); subst hg) | (refine kIdxO (fun gb go hg => ?_); subst hg))); rotate_right))
              all_goals (refine ow_cons ?_; first | (refine gTf ?_; refine kLoad ?_) | refine gFf ?_ | refine gNo ?_ | refine gUn ?_ | (refine gYes ?_; refine kLoad ?_) | (refine gSf (fun hc => ?_) (fun hc => ?_); rotate_left; (focus (refine kLoad ?_)); rotate_right) | (refine gBf (fun hc => ?_) (fun hc => ?_); rotate_left; (focus (refine kLoad ?_)); rotate_right))
              all_goals refine wPick ?_
              all_goals refine ow_nil ?_)
          | (
              refine cw_region (id := 38) rfl ?_
              all_goals refine wAssign ?_
              all_goals refine ow_nil ?_)
          | (
              refine cw_region (id := 39) rfl ?_
              all_goals refine wMove ?_
              all_goals refine wMove ?_
              all_goals refine wMove ?_
              all_goals (refine ow_cons ?_; first | refine kIndex ?_ | (refine kIdxR (fun g hg => ?_); subst hg) | (refine kIdxO (fun gb go hg => ?_); subst hg))
              all_goals refine wLoad ?_
              all_goals (refine ow_cons ?_; first | refine kIndex ?_ | (refine kIdxR (fun g hg => ?_); subst hg) | (refine kIdxO (fun gb go hg => ?_); subst hg))
              all_goals (refine ow_cons ?_; first | refine kStore ?_ | refine kStoreA ?_ | refine kStoreR ?_)
              all_goals refine ow_nil ?_)
          | (
              refine cw_region (id := 36) rfl ?_
              all_goals refine wMove ?_
              all_goals refine wAdd ?_
              all_goals refine wAssign ?_
              all_goals refine ow_nil ?_)
          | (
              refine cw_region (id := 40) rfl ?_
              all_goals refine wAssign ?_
              all_goals refine ow_nil ?_)
          | (
              refine cw_region (id := 41) rfl ?_
              all_goals refine wAssign ?_
              all_goals refine ow_nil ?_)
          | (
              refine cw_region (id := 42) rfl ?_
              all_goals refine wMove ?_
              all_goals refine wMove ?_
              all_goals refine wLen ?_
              all_goals refine wLss ?_
              all_goals refine ow_nil ?_)
          | (
              refine cw_region (id := 44) rfl ?_
              all_goals refine wMove ?_
              all_goals refine wMove ?_
              all_goals (refine ow_cons ?_; first | refine kIndex ?_ | (refine kIdxR (fun g hg => ?_); subst hg) | (refine kIdxO (fun gb go hg => ?_); subst hg))
              all_goals refine wLoad ?_
              all_goals refine wNot ?_
              all_goals refine ow_nil ?_)
          | (
              refine cw_region (id := 45) rfl ?_
              all_goals refine wMove ?_
              all_goals refine wMove ?_
              all_goals refine wMove ?_
              all_goals (refine ow_cons ?_; first | refine kIndex ?_ | (refine kIdxR (fun g hg => ?_); subst hg) | (refine kIdxO (fun gb go hg => ?_); subst hg))
              all_goals refine wLoad ?_
              all_goals refine wAdd ?_
              all_goals refine wAssign ?_
              all_goals refine ow_nil ?_)
          | (
              refine cw_region (id := 43) rfl ?_
              all_goals refine wMove ?_
              all_goals refine wAdd ?_
              all_goals refine wAssign ?_
              all_goals refine ow_nil ?_)
          | (
              refine cw_region (id := 46) rfl ?_
              all_goals refine wMove ?_
              all_goals (refine ow_cons ?_; (refine st_call (av := [_]) rfl (flight_spec b s2 a2 c2) (.cons selA (.nil _)) ?_; rintro v L' ⟨rfl, rfl⟩))
              all_goals refine wMove ?_
              all_goals refine wNeq ?_
              all_goals refine wMove ?_
              all_goals (refine ow_cons ?_; first | (refine gTf ?_; refine kMove ?_) | refine gFf ?_ | refine gNo ?_ | refine gUn ?_ | (refine gYes ?_; refine kMove ?_) | (refine gSf (fun hc => ?_) (fun hc => ?_); rotate_left; (focus (refine kMove ?_)); rotate_right) | (refine gBf (fun hc => ?_) (fun hc => ?_); rotate_left; (focus (refine kMove ?_)); rotate_right))
              all_goals (refine ow_cons ?_; first | (refine gTf ?_; (refine st_call (av := [_]) rfl (window_spec b s2 a2 c2) (.cons selA (.nil _)) ?_; rintro v L' ⟨rfl, rfl⟩)) | refine gFf ?_ | refine gNo ?_ | refine gUn ?_ | (refine gYes ?_; (refine st_call (av := [_]) rfl (window_spec b s2 a2 c2) (.cons selA (.nil _)) ?_; rintro v L' ⟨rfl, rfl⟩)) | (refine gSf (fun hc => ?_) (fun hc => ?_); rotate_left; (focus ((refine st_call (av := [_]) rfl (window_spec b s2 a2 c2) (.cons selA (.nil _)) ?_; rintro v L' ⟨rfl, rfl⟩))); rotate_right) | (refine gBf (fun hc => ?_) (fun hc => ?_); rotate_left; (focus ((refine st_call (av := [_]) rfl (window_spec b s2 a2 c2) (.cons selA (.nil _)) ?_; rintro v L' ⟨rfl, rfl⟩))); rotate_right))
              all_goals (refine ow_cons ?_; first | (refine gTf ?_; refine kLss ?_) | refine gFf ?_ | refine gNo ?_ | refine gUn ?_ | (refine gYes ?_; refine kLss ?_) | (refine gSf (fun hc => ?_) (fun hc => ?_); rotate_left; (focus (refine kLss ?_)); rotate_right) | (refine gBf (fun hc => ?_) (fun hc => ?_); rotate_left; (focus (refine kLss ?_)); rotate_right))
              all_goals refine wPick ?_
              all_goals refine ow_nil ?_)
          | (
              refine cw_region (id := 47) rfl ?_
              all_goals refine wAssign ?_
              all_goals refine ow_nil ?_)
          | (
              refine cw_region (id := 9) rfl ?_
              all_goals refine wMove ?_
              all_goals refine wAdd ?_
              all_goals refine wAssign ?_
              all_goals refine ow_nil ?_)
          | (
              refine cw_region (id := 48) rfl ?_
              all_goals refine wAssign ?_
              all_goals refine ow_nil ?_)
          | refine cw_seq ?_
          | refine tq_n ?_
          | (refine isCW ?_; first | refine cw_region rfl ?_ | refine cw_skip ?_ | refine cw_ret ?_ | refine cw_exit ?_ | refine cw_block ?_ | refine cT ?_ | refine cF ?_ | refine cTrue ?_ | refine cFalse ?_ | refine cS (fun hc => ?_) (fun hc => ?_) | refine cB (fun hc => ?_) (fun hc => ?_))
          | refine tq_ret ?_ | refine tq_exit ?_ | refine bq_n ?_ | refine bq_ret ?_ | refine bq_same ?_ | refine bq_ne rfl ?_
          | refine ow_cons ?_ | refine ow_nil ?_
          | (refine isOpK ?_; first
            | (refine isG ?_; first | refine opk_yes rfl rfl ?_ | refine opk_no rfl rfl ?_ | refine opk_no_undef rfl rfl ?_ | refine opk_g_t rfl rfl (by omega) ?_ | refine opk_g_f rfl rfl (by omega) ?_ | refine opk_g_s rfl rfl (fun hc => ?_) (fun hc => ?_) | refine opk_g_b rfl rfl (fun hc => ?_) (fun hc => ?_))
            | refine kRd ?_
            | refine kStore ?_
            | refine kStoreA ?_
            | refine kStoreR ?_
            | (refine kIdxR (fun g hg => ?_); subst hg)
            | (refine kIdxO (fun gb go hg => ?_); subst hg)
            | refine st_alloc (fun bN => ?_)
            | refine kBox (fun bN => ?_)
            | refine kBoxA (fun bN => ?_)
            | (refine st_buildSlice rfl rfl rfl rfl (fun bN => ?_))
            | (refine st_clearR rfl selA rfl (by omega) rfl rfl rfl ?_)
            | (refine st_clearR rfl selA (by omega) (by omega) rfl rfl rfl ?_)
            | (refine st_call (av := [_]) rfl (flight_spec b s2 a2 c2) (.cons selA (.nil _)) ?_; rintro v L' ⟨rfl, rfl⟩)
            | (refine st_call (av := [_]) rfl (window_spec b s2 a2 c2) (.cons selA (.nil _)) ?_; rintro v L' ⟨rfl, rfl⟩))
          | refine hw_cons ?_ | refine hw_nil ?_
          | (refine isOpS ?_; first
            | (refine os_isG ?_; first | refine os_yes rfl rfl ?_ | refine os_no rfl rfl ?_ | refine os_no_undef rfl rfl ?_ | refine os_g_t rfl rfl (by omega) ?_ | refine os_g_f rfl rfl (by omega) ?_ | refine os_g_s rfl rfl (fun hc => ?_) (fun hc => ?_) | refine os_g_b rfl rfl (fun hc => ?_) (fun hc => ?_))
            | refine sRd ?_))
        have hq1 : (l2.map (·.1)).length = (lj.map (·.1)).length := by rw [hT.fst]
        have hq2 : (l2.map (·.2)).length = (lj.map (·.2)).length := by rw [hmf2, hlj2, hlj]
        refine lp_end (i + 1, s2, a2, c2, lj, az2, cz2, at2, ct2, now2) ⟨rfl, rfl, rfl, congrArg (fun n => Value.slice (oad az2) n cz2) hq1, congrArg (fun n => Value.slice (oad at2) n ct2) hq2, rfl, rfl, trivial⟩ ⟨by simp only; omega, by simp only; omega, hI3⟩ (by simp only; omega) (fun w h => ?_)
        simp only [hT.fst]
        exact pickL h (.cons selA (.cons selA (.cons selA (.cons selA (selL_all _)))))
  · skip
    repeat' (first
      | (
          refine cw_region (id := 0) rfl ?_
          all_goals refine wAssign ?_
          all_goals refine ow_nil ?_)
      | (
          refine cw_region (id := 2) rfl ?_
          all_goals refine wAssign ?_
          all_goals refine ow_nil ?_)
      | (
          refine cw_region (id := 4) rfl ?_
          all_goals refine wAssign ?_
          all_goals refine ow_nil ?_)
      | (
          refine cw_region (id := 5) rfl ?_
          all_goals refine wAssign ?_
          all_goals refine ow_nil ?_)
      | (
          refine cw_region (id := 6) rfl ?_
          all_goals refine wAssign ?_
          all_goals refine ow_nil ?_)
      | (
          refine cw_region (id := 7) rfl ?_
          all_goals refine wAssign ?_
          all_goals refine ow_nil ?_)
      | (
          refine cw_region (id := 8) rfl ?_
          all_goals refine wMove ?_
          all_goals refine wMove ?_
          all_goals refine wLen ?_
          all_goals refine wLss ?_
          all_goals refine wMove ?_
          all_goals (refine ow_cons ?_; first | (refine gTt ?_; refine kMove ?_) | refine gFt ?_ | refine gNo ?_ | refine gUn ?_ | (refine gYes ?_; refine kMove ?_) | (refine gSt (fun hc => ?_) (fun hc => ?_); (focus (refine kMove ?_))) | (refine gBt (fun hc => ?_) (fun hc => ?_); (focus (refine kMove ?_))))
          all_goals (refine ow_cons ?_; first | (refine gTt ?_; refine kLss ?_) | refine gFt ?_ | refine gNo ?_ | refine gUn ?_ | (refine gYes ?_; refine kLss ?_) | (refine gSt (fun hc => ?_) (fun hc => ?_); (focus (refine kLss ?_))) | (refine gBt (fun hc => ?_) (fun hc => ?_); (focus (refine kLss ?_))))
          all_goals refine wPick ?_
          all_goals refine ow_nil ?_)
      | (
          refine cw_region (id := 10) rfl ?_
          all_goals refine wMove ?_
          all_goals refine wMove ?_
          all_goals (refine ow_cons ?_; first | refine kIndex ?_ | (refine kIdxR (fun g hg => ?_); subst hg) | (refine kIdxO (fun gb go hg => ?_); subst hg))
          all_goals refine wLoad ?_
          all_goals (refine ow_cons ?_; refine st_alloc (fun bN => ?_))
          all_goals (refine ow_cons ?_; first | refine kStore ?_ | refine kStoreA ?_ | refine kStoreR ?_)
          all_goals refine ow_nil ?_)
      | (
          refine cw_region (id := 11) rfl ?_
          all_goals refine wMove ?_
          all_goals refine wField ?_
          all_goals refine wLoad ?_
          all_goals refine wConv ?_
          all_goals refine wRem ?_
          all_goals refine wConv ?_
          all_goals refine wAdd ?_
          all_goals refine wMin ?_
          all_goals refine wAssign ?_
          all_goals refine ow_nil ?_)
      | (
          refine cw_region (id := 12) rfl ?_
          all_goals refine wAssign ?_
          all_goals refine ow_nil ?_)
      | (
          refine cw_region (id := 13) rfl ?_
          all_goals refine wField ?_
          all_goals refine wLoad ?_
          all_goals refine ow_nil ?_)
      | (
          refine cw_region (id := 18) rfl ?_
          all_goals refine wEql ?_
          all_goals refine wAssign ?_
          all_goals refine ow_nil ?_)
      | (
          refine cw_region (id := 19) rfl ?_
          all_goals refine wAssign ?_
          all_goals refine ow_nil ?_)
      | (
          refine cw_region (id := 20) rfl ?_
          all_goals refine wAssign ?_
          all_goals refine ow_nil ?_)
      | (
          refine cw_region (id := 21) rfl ?_
          all_goals refine wMove ?_
          all_goals refine wField ?_
          all_goals refine wLoad ?_
          all_goals refine wLen ?_
          all_goals refine wLss ?_
          all_goals refine wMove ?_
          all_goals (refine ow_cons ?_; first | (refine gTt ?_; refine kMove ?_) | refine gFt ?_ | refine gNo ?_ | refine gUn ?_ | (refine gYes ?_; refine kMove ?_) | (refine gSt (fun hc => ?_) (fun hc => ?_); (focus (refine kMove ?_))) | (refine gBt (fun hc => ?_) (fun hc => ?_); (focus (refine kMove ?_))))
          all_goals (refine ow_cons ?_; first | (refine gTt ?_; refine kLss ?_) | refine gFt ?_ | refine gNo ?_ | refine gUn ?_ | (refine gYes ?_; refine kLss ?_) | (refine gSt (fun hc => ?_) (fun hc => ?_); (focus (refine kLss ?_))) | (refine gBt (fun hc => ?_) (fun hc => ?_); (focus (refine kLss ?_))))
          all_goals refine wPick ?_
          all_goals refine wMove ?_
          all_goals (refine ow_cons ?_; first | (refine gTt ?_; refine kMove ?_) | refine gFt ?_ | refine gNo ?_ | refine gUn ?_ | (refine gYes ?_; refine kMove ?_) | (refine gSt (fun hc => ?_) (fun hc => ?_); (focus (refine kMove ?_))) | (refine gBt (fun hc => ?_) (fun hc => ?_); (focus (refine kMove ?_))))
          all_goals (refine ow_cons ?_; first | (refine gTt ?_; refine kLen ?_) | refine gFt ?_ | refine gNo ?_ | refine gUn ?_ | (refine gYes ?_; refine kLen ?_) | (refine gSt (fun hc => ?_) (fun hc => ?_); (focus (refine kLen ?_))) | (refine gBt (fun hc => ?_) (fun hc => ?_); (focus (refine kLen ?_))))
          all_goals (refine ow_cons ?_; first | (refine gTt ?_; refine kGtr ?_) | refine gFt ?_ | refine gNo ?_ | refine gUn ?_ | (refine gYes ?_; refine kGtr ?_) | (refine gSt (fun hc => ?_) (fun hc => ?_); (focus (refine kGtr ?_))) | (refine gBt (fun hc => ?_) (fun hc => ?_); (focus (refine kGtr ?_))))
          all_goals refine wPick ?_
          all_goals refine ow_nil ?_)
      | (
          refine cw_draw (id := 23) 26 (by kernel_rfl) (by kernel_rfl) rfl ?_
          all_goals refine hField ?_
          all_goals refine hLoad ?_
          all_goals refine hMove ?_
          all_goals refine hIndex ?_
          all_goals refine hField ?_
          all_goals refine hLoad ?_
          all_goals refine hConv ?_
          all_goals refine hMove ?_
          all_goals refine hLen ?_
          all_goals refine hConv ?_
          all_goals refine hRem ?_
          all_goals refine hConv ?_
          all_goals refine hField ?_
          all_goals refine hLoad ?_
          all_goals refine hMove ?_
          all_goals refine hIndex ?_
          all_goals refine hField ?_
          all_goals refine hLoad ?_
          all_goals refine hConv ?_
          all_goals refine hMove ?_
          all_goals refine hLen ?_
          all_goals refine hConv ?_
          all_goals refine hRem ?_
          all_goals refine hConv ?_
          all_goals refine hAssign ?_
          all_goals refine hAssign ?_
          all_goals refine hw_nil ?_
          all_goals refine ow_nil ?_)
      | (
          refine cw_region (id := 22) rfl ?_
          all_goals refine wMove ?_
          all_goals refine wAdd ?_
          all_goals refine wAssign ?_
          all_goals refine ow_nil ?_)
      | (
          refine cw_region (id := 26) rfl ?_
          all_goals refine wMove ?_
          all_goals refine wNeq ?_
          all_goals refine ow_nil ?_)
      | (
          refine cw_region (id := 27) rfl ?_
          all_goals refine wAssign ?_
          all_goals refine ow_nil ?_)
      | (
          refine cw_region (id := 29) rfl ?_
          all_goals refine wEql ?_
          all_goals refine wAssign ?_
          all_goals refine ow_nil ?_)
      | (
          refine cw_region (id := 31) rfl ?_
          all_goals refine wMove ?_
          all_goals refine wNeq ?_
          all_goals refine ow_nil ?_)
      | (
          refine cw_region (id := 32) rfl ?_
          all_goals refine wAssign ?_
          all_goals refine ow_nil ?_)
      | (
          refine cw_region (id := 33) rfl ?_
          all_goals refine wMove ?_
          all_goals refine wAssign ?_
          all_goals refine ow_nil ?_)
      | (
          refine cw_region (id := 14) rfl ?_
          all_goals refine wField ?_
          all_goals refine wLoad ?_
          all_goals refine wConv ?_
          all_goals refine wRem ?_
          all_goals refine wConv ?_
          all_goals refine wAdd ?_
          all_goals refine wAssign ?_
          all_goals refine ow_nil ?_)
      | (
          refine cw_region (id := 16) rfl ?_
          all_goals refine wAssign ?_
          all_goals refine ow_nil ?_)
      | (
          refine cw_region (id := 34) rfl ?_
          all_goals refine wAssign ?_
          all_goals refine ow_nil ?_)
      | (
          refine cw_region (id := 35) rfl ?_
          all_goals refine wMove ?_
          all_goals refine wMove ?_
          all_goals refine wLen ?_
          all_goals refine wLss ?_
          all_goals refine ow_nil ?_)
      | (
          refine cw_region (id := 37) rfl ?_
          all_goals refine wMove ?_
          all_goals refine wMove ?_
          all_goals (refine ow_cons ?_; first | refine kIndex ?_ | (refine kIdxR (fun g hg => ?_); subst hg) | (refine kIdxO (fun gb go hg => ?_); subst hg))
          all_goals refine wLoad ?_
          all_goals refine wLss ?_
          all_goals refine wMove ?_
          all_goals (refine ow_cons ?_; first | (refine gTf ?_; refine kMove ?_) | refine gFf ?_ | refine gNo ?_ | refine gUn ?_ | (refine gYes ?_; refine kMove ?_) | (refine gSf (fun hc => ?_) (fun hc => ?_); rotate_left; (focus (refine kMove ?_)); rotate_right) | (refine gBf (fun hc => ?_) (fun hc => ?_); rotate_left; (focus (refine kMove ?_)); rotate_right))
          all_goals (refine ow_cons ?_; first | (refine gTf ?_; refine kMove ?_) | refine gFf ?_ | refine gNo ?_ | refine gUn ?_ | (refine gYes ?_; refine kMove ?_) | (refine gSf (fun hc => ?_) (fun hc => ?_); rotate_left; (focus (refine kMove ?_)); rotate_right) | (refine gBf (fun hc => ?_) (fun hc => ?_); rotate_left; (focus (refine kMove ?_)); rotate_right))
          all_goals (refine ow_cons ?_; first | (refine gTf ?_; first | refine kIndex ?_ | (refine kIdxR (fun g hg => ?_); subst hg) | (refine kIdxO (fun gb go hg => ?_); subst hg)) | refine gFf ?_ | refine gNo ?_ | refine gUn ?_ | (refine gYes ?_; first | refine kIndex ?_ | (refine kIdxR (fun g hg => ?_); subst hg) | (refine kIdxO (fun gb go hg => ?_); subst hg)) | (refine gSf (fun hc => ?_) (fun hc => ?_); rotate_left; (focus (first | refine kIndex ?_ | (refine kIdxR (fun g hg => ?_); subst hg) | (refine kIdxO (fun gb go hg => ?_); subst hg))); rotate_right) | (refine gBf (fun hc => ?_) (fun hc => ?_); rotate_left; (focus (first | refine kIndex ?_ | (refine kIdxR (fun g hg => ?_); subst hg) | (refine kIdxO (fun gb go hg => ?_); subst hg))); rotate_right))
          all_goals (refine ow_cons ?_; first | (refine gTf ?_; refine kLoad ?_) | refine gFf ?_ | refine gNo ?_ | refine gUn ?_ | (refine gYes ?_; refine kLoad ?_) | (refine gSf (fun hc => ?_) (fun hc => ?_); rotate_left; (focus (refine kLoad ?_)); rotate_right) | (refine gBf (fun hc => ?_) (fun hc => ?_); rotate_left; (focus (refine kLoad ?_)); rotate_right))
          all_goals (refine ow_cons ?_; first | (refine gTf ?_; refine kMove ?_) | refine gFf ?_ | refine gNo ?_ | refine gUn ?_ | (refine gYes ?_; refine kMove ?_) | (refine gSf (fun hc => ?_) (fun hc => ?_); rotate_left; (focus (refine kMove ?_)); rotate_right) | (refine gBf (fun hc => ?_) (fun hc => ?_); rotate_left; (focus (refine kMove ?_)); rotate_right))
          all_goals (refine ow_cons ?_; first | (refine gTf ?_; refine kLen ?_) | refine gFf ?_ | refine gNo ?_ | refine gUn ?_ | (refine gYes ?_; refine kLen ?_) | (refine gSf (fun hc => ?_) (fun hc => ?_); rotate_left; (focus (refine kLen ?_)); rotate_right) | (refine gBf (fun hc => ?_) (fun hc => ?_); rotate_left; (focus (refine kLen ?_)); rotate_right))
          all_goals (refine ow_cons ?_; first | (refine gTf ?_; refine kGeq ?_) | refine gFf ?_ | refine gNo ?_ | refine gUn ?_ | (refine gYes ?_; refine kGeq ?_) | (refine gSf (fun hc => ?_) (fun hc => ?_); rotate_left; (focus (refine kGeq ?_)); rotate_right) | (refine gBf (fun hc => ?_) (fun hc => ?_); rotate_left; (focus (refine kGeq ?_)); rotate_right))
          all_goals refine wPick ?_
          all_goals refine wMove ?_
          all_goals (refine ow_cons ?_; first | (refine gTf ?_; refine kMove ?_) | refine gFf ?_ | refine gNo ?_ | refine gUn ?_ | (refine gYes ?_; refine kMove ?_) | (refine gSf (fun hc => ?_) (fun hc => ?_); rotate_left; (focus (refine kMove ?_)); rotate_right) | (refine gBf (fun hc => ?_) (fun hc => ?_); rotate_left; (focus (refine kMove ?_)); rotate_right))
          all_goals (refine ow_cons ?_; first | (refine gTf ?_; refine kMove ?_) | refine gFf ?_ | refine gNo ?_ | refine gUn ?_ | (refine gYes ?_; refine kMove ?_) | (refine gSf (fun hc => ?_) (fun hc => ?_); rotate_left; (focus (refine kMove ?_)); rotate_right) | (refine gBf (fun hc => ?_) (fun hc => ?_); rotate_left; (focus (refine kMove ?_)); rotate_right))
          all_goals (refine ow_cons ?_; first | (refine gTf ?_; refine kMove ?_) | refine gFf ?_ | refine gNo ?_ | refine gUn ?_ | (refine gYes ?_; refine kMove ?_) | (refine gSf (fun hc => ?_) (fun hc => ?_); rotate_left; (focus (refine kMove ?_)); rotate_right) | (refine gBf (fun hc => ?_) (fun hc => ?_); rotate_left; (focus (refine kMove ?_)); rotate_right))
          all_goals (refine ow_cons ?_; first | (refine gTf ?_; first | refine kIndex ?_ | (refine kIdxR (fun g hg => ?_); subst hg) | (refine kIdxO (fun gb go hg => ?_); subst hg)) | refine gFf ?_ | refine gNo ?_ | refine gUn ?_ | (refine gYes ?_; first | refine kIndex ?_ | (refine kIdxR (fun g hg => ?_); subst hg) | (refine kIdxO (fun gb go hg => ?_); subst hg)) | (refine gSf (fun hc => ?_) (fun hc => ?_); rotate_left; (focus (first | refine kIndex ?_ | (refine kIdxR (fun g hg => ?_); subst hg) | (refine kIdxO (fun gb go hg => ?_); subst hg))); rotate_right) | (refine gBf (fun hc => ?_) (fun hc => ?_); rotate_left; (focus (first | refine kIndex ?_ | (refine kIdxR (fun g hg => ?_); subst hg) | (refine kIdxO (fun gb go hg => ?_); subst hg))); rotate_right))
          all_goals (refine ow_cons ?_; first | (refine gTf ?_; refine kLoad ?_) | refine gFf ?_ | refine gNo ?_ | refine gUn ?_ | (refine gYes ?_; refine kLoad ?_) | (refine gSf (fun hc => ?_) (fun hc => ?_); rotate_left; (focus (refine kLoad ?_)); rotate_right) | (refine gBf (fun hc => ?_) (fun hc => ?_); rotate_left; (focus (refine kLoad ?_)); rotate_right))
          all_goals (refine ow_cons ?_; first | (refine gTf ?_; first | refine kIndex ?_ | (refine kIdxR (fun g hg => ?_); subst hg) | (refine kIdxO (fun gb go hg => ?_); subst hg)) | refine gFf ?_ | refine gNo ?_ | refine gUn ?_ | (refine gYes ?_; first | refine kIndex ?_ | (refine kIdxR (fun g hg => ?_); subst hg) | (refine kIdxO (fun gb go hg => ?_); subst hg)) | (refine gSf (fun hc => ?_) (fun hc => ?_); rotate_left; (focus (first | refine kIndex ?_ | (refine kIdxR (fun g hg => ?_); subst hg) | (refine kIdxO (fun gb go hg => ?_); subst hg))); rotate_right) | (refine gBf (fun hc => ?_) (fun hc => ?_); rotate_left; (focus (first | refine kIndex ?_ | (refine kIdxR (fun g hg => ?_); subst hg) | (refine kIdxO (fun gb go hg => ?_); subst hg))); rotate_right))
          all_goals (refine ow_cons ?_; first | (refine gTf ?_; refine kLoad ?_) | refine gFf ?_ | refine gNo ?_ | refine gUn ?_ | (refine gYes ?_; refine kLoad ?_) | (refine gSf (fun hc => ?_) (fun hc => ?_); rotate_left; (focus (refine kLoad ?_)); rotate_right) | (refine gBf (fun hc => ?_) (fun hc => ?_); rotate_left; (focus (refine kLoad ?_)); rotate_right))
          all_goals refine wPick ?_
          all_goals refine ow_nil ?_)
      | (
          refine cw_region (id := 38) rfl ?_
          all_goals refine wAssign ?_
          all_goals refine ow_nil ?_)
      | (
          refine cw_region (id := 39) rfl ?_
          all_goals refine wMove ?_
          all_goals refine wMove ?_
          all_goals refine wMove ?_
          all_goals (refine ow_cons ?_; first | refine kIndex ?_ | (refine kIdxR (fun g hg => ?_); subst hg) | (refine kIdxO (fun gb go hg => ?_); subst hg))
          all_goals refine wLoad ?_
          all_goals (refine ow_cons ?_; first | refine kIndex ?_ | (refine kIdxR (fun g hg => ?_); subst hg) | (refine kIdxO (fun gb go hg => ?_); subst hg))
          all_goals (refine ow_cons ?_; first | refine kStore ?_ | refine kStoreA ?_ | refine kStoreR ?_)
          all_goals refine ow_nil ?_)
      | (
          refine cw_region (id := 36) rfl ?_
          all_goals refine wMove ?_
          all_goals refine wAdd ?_
          all_goals refine wAssign ?_
          all_goals refine ow_nil ?_)
      | (
          refine cw_region (id := 40) rfl ?_
          all_goals refine wAssign ?_
          all_goals refine ow_nil ?_)
      | (
          refine cw_region (id := 41) rfl ?_
          all_goals refine wAssign ?_
          all_goals refine ow_nil ?_)
      | (
          refine cw_region (id := 42) rfl ?_
          all_goals refine wMove ?_
          all_goals refine wMove ?_
          all_goals refine wLen ?_
          all_goals refine wLss ?_
          all_goals refine ow_nil ?_)
      | (
          refine cw_region (id := 44) rfl ?_
          all_goals refine wMove ?_
          all_goals refine wMove ?_
          all_goals (refine ow_cons ?_; first | refine kIndex ?_ | (refine kIdxR (fun g hg => ?_); subst hg) | (refine kIdxO (fun gb go hg => ?_); subst hg))
          all_goals refine wLoad ?_
          all_goals refine wNot ?_
          all_goals refine ow_nil ?_)
      | (
          refine cw_region (id := 45) rfl ?_
          all_goals refine wMove ?_
          all_goals refine wMove ?_
          all_goals refine wMove ?_
          all_goals (refine ow_cons ?_; first | refine kIndex ?_ | (refine kIdxR (fun g hg => ?_); subst hg) | (refine kIdxO (fun gb go hg => ?_); subst hg))
          all_goals refine wLoad ?_
          all_goals refine wAdd ?_
          all_goals refine wAssign ?_
          all_goals refine ow_nil ?_)
      | (
          refine cw_region (id := 43) rfl ?_
          all_goals refine wMove ?_
          all_goals refine wAdd ?_
          all_goals refine wAssign ?_
          all_goals refine ow_nil ?_)
      | (
          refine cw_region (id := 47) rfl ?_
          all_goals refine wAssign ?_
          all_goals refine ow_nil ?_)
      | (
          refine cw_region (id := 9) rfl ?_
          all_goals refine wMove ?_
          all_goals refine wAdd ?_
          all_goals refine wAssign ?_
          all_goals refine ow_nil ?_)
      | (
          refine cw_region (id := 48) rfl ?_
          all_goals refine wAssign ?_
          all_goals refine ow_nil ?_)
      | refine cw_seq ?_
      | refine tq_n ?_
      | (refine isCW ?_; first | refine cw_region rfl ?_ | refine cw_skip ?_ | refine cw_ret ?_ | refine cw_exit ?_ | refine cw_block ?_ | refine cT ?_ | refine cF ?_ | refine cTrue ?_ | refine cFalse ?_ | refine cS (fun hc => ?_) (fun hc => ?_) | refine cB (fun hc => ?_) (fun hc => ?_))
      | refine tq_ret ?_ | refine tq_exit ?_ | refine bq_n ?_ | refine bq_ret ?_ | refine bq_same ?_ | refine bq_ne rfl ?_
      | refine ow_cons ?_ | refine ow_nil ?_
      | (refine isOpK ?_; first
        | (refine isG ?_; first | refine opk_yes rfl rfl ?_ | refine opk_no rfl rfl ?_ | refine opk_no_undef rfl rfl ?_ | refine opk_g_t rfl rfl (by omega) ?_ | refine opk_g_f rfl rfl (by omega) ?_ | refine opk_g_s rfl rfl (fun hc => ?_) (fun hc => ?_) | refine opk_g_b rfl rfl (fun hc => ?_) (fun hc => ?_))
        | refine kRd ?_
        | refine kStore ?_
        | refine kStoreA ?_
        | refine kStoreR ?_
        | (refine kIdxR (fun g hg => ?_); subst hg)
        | (refine kIdxO (fun gb go hg => ?_); subst hg)
        | refine st_alloc (fun bN => ?_)
        | refine kBox (fun bN => ?_)
        | refine kBoxA (fun bN => ?_)
        | (refine st_buildSlice rfl rfl rfl rfl (fun bN => ?_))
        | (refine st_clearR rfl selA rfl (by omega) rfl rfl rfl ?_)
        | (refine st_clearR rfl selA (by omega) (by omega) rfl rfl rfl ?_))
      | refine hw_cons ?_ | refine hw_nil ?_
      | (refine isOpS ?_; first
        | (refine os_isG ?_; first | refine os_yes rfl rfl ?_ | refine os_no rfl rfl ?_ | refine os_no_undef rfl rfl ?_ | refine os_g_t rfl rfl (by omega) ?_ | refine os_g_f rfl rfl (by omega) ?_ | refine os_g_s rfl rfl (fun hc => ?_) (fun hc => ?_) | refine os_g_b rfl rfl (fun hc => ?_) (fun hc => ?_))
        | refine sRd ?_))
    all_goals exact retQ_ret (retV_tmps [2] rfl rfl) ⟨rfl, rfl⟩ (fun _ _ h => pick0 h)
end Go.Proofs.Ytomaldjedncjoaa.E
