/-
The layer 'loss': Acked.
Conditions: each is said with its statement.
-/
import Derived.Test.YtomaldjedncjoaaL6
set_option linter.unusedVariables false
namespace Go.Proofs.Ytomaldjedncjoaa.E
open Go
set_option maxRecDepth 100000
set_option maxHeartbeats 4000000
def St.came (s : St) (xs : List Sp) : List Pk := s.waits.filter fun q => inSp xs q.number
/-- What comes of those that came. -/
def St.takes1 (s : St) (l : Pk) (came : List Pk) (delay : Int) : St :=
  if s.best ≤ l.number then (if came.any (·.asks) then ({ s with best := l.number } : St).sample (s.now - l.at_) delay else { s with best := l.number }) else s
def St.takes (s : St) (came : List Pk) (delay : Int) : St :=
  match came.getLast? with
  | none => s
  | some l => { came.foldl St.grow (s.takes1 l came delay) with tries := 0 }
theorem grow_waits (s : St) (p : Pk) : (s.grow p).waits = s.waits := by unfold St.grow; split <;> (try split) <;> rfl
theorem sample_waits (s : St) (trip delay : Int) : (s.sample trip delay).waits = s.waits := by unfold St.sample; split <;> rfl
theorem foldl_ok (l : List Pk) : ∀ {s : St}, s.Ok → (∀ q ∈ l, 0 ≤ q.size ∧ q.size ≤ 65535) → (l.foldl St.grow s).Ok := by
  induction l with
  | nil => intro s h _; exact h
  | cons q l ih => intro s h hq; exact ih (grow_ok h q (hq q (by simp))) fun x hx => hq x (by simp [hx])
theorem foldl_waits (l : List Pk) : ∀ (s : St), (l.foldl St.grow s).waits = s.waits := by
  induction l with
  | nil => intro s; rfl
  | cons q l ih => intro s; rw [List.foldl_cons, ih, grow_waits]
theorem takes1_ok {s : St} (ok : s.Ok) {l : Pk} (hl : l.Ok s.now s.top) (came : List Pk) {delay : Int} (hd : 0 ≤ delay) : (s.takes1 l came delay).Ok := by
  have h1 := hl.at_
  have h2 := hl.number
  have hn := ok.now
  have hb : ({ s with best := l.number } : St).Ok := ⟨ok.smooth, ok.vary, ok.least, ok.last, ok.top, by simp only; omega, ok.window, ok.tries, ok.now, ok.flight, ok.each, ok.order⟩
  unfold St.takes1
  split
  · split
    · exact sample_ok hb (by omega) hd
    · exact hb
  · exact ok
theorem takes_ok {s : St} (ok : s.Ok) {came : List Pk} (hc : ∀ q ∈ came, q.Ok s.now s.top) {delay : Int} (hd : 0 ≤ delay) : (s.takes came delay).Ok := by
  unfold St.takes
  split
  · exact ok
  · rename_i l hl
    have h := foldl_ok came (takes1_ok ok (hc l (List.mem_of_getLast? hl)) came hd) fun q hq => (hc q hq).size
    exact ⟨h.smooth, h.vary, h.least, h.last, h.top, h.best, h.window, ⟨by simp, by simp⟩, h.now, h.flight, h.each, h.order⟩
def St.acked (s : St) (xs : List Sp) (delay t : Int) : St × List Int × List Int × Int :=
  if ¬ (s.now ≤ t ∧ t ≤ 1099511627776) ∨ delay < 0 ∨ 1099511627776 < delay then (s, [], [], 1)
  else if s.badSp xs ≠ 0 then (s, [], [], s.badSp xs)
  else
    let s1 : St := { s with now := t }
    let s2 := (s1.outS fun q => inSp xs q.number).takes (s1.came xs) delay
    (s2.give t, (s1.came xs).map (·.number), (s2.waits.filter (s2.lost t)).map (·.number), 0)
theorem outAcked (b c : Nat) (s : St) (a : Option Nat) (cap : Nat) (ad : Option Addr) (cap1 : Nat) (xs : List Sp) (hx : xs.length ≤ 1152921504606846976) (ok : s.Ok) :
    Spec Go.Proofs.Try.prog 29 #[ptr b, .func (.func 30) #[] #[ptr c]] (stR b s a cap ++ [blk c 33 [.slice ad xs.length cap1], ro ad tSp xs])
      (fun v L => ∃ a' cap', v = .slice (oad a') (s.came xs).length cap' ∧ L = stR b (s.outS fun q => inSp xs q.number) a cap ++ ([row a' 66 cap' tPk (s.came xs)] ++ [blk c 33 [.slice ad xs.length cap1], ro ad tSp xs])) :=
  out29 b 30 [ptr c] [blk c 33 [.slice ad xs.length cap1], ro ad tSp xs] (fun q => inSp xs q.number) s a cap (fun q _ s' _ => (acked30 q c ad cap1 xs hx).beside _) (by have := ok.len; omega) ok.fl (fun q hq => (ok.each q hq).size)
def ackedV (a1 : Option Nat) (cap1 : Nat) (a2 : Option Nat) (cap2 : Nat) (r : St × List Int × List Int × Int) : Value := .tuple #[.slice (oad a1) r.2.1.length cap1, .slice (oad a2) r.2.2.1.length cap2, i6 r.2.2.2]
theorem acked11 (b : Nat) (s : St) (a : Option Nat) (cap : Nat) (ad : Option Addr) (cap1 : Nat) (xs : List Sp) (delay t : Int) (hx : xs.length ≤ 1152921504606846976) (ok : s.Ok) :
    Spec Go.Proofs.Try.prog 11 #[ptr b, .slice ad xs.length cap1, i6 delay, i6 t] (stR b s a cap ++ [ro ad tSp xs])
      (fun v L => ∃ a1 cap1 a2 cap2, v = ackedV a1 cap1 a2 cap2 (s.acked xs delay t) ∧ L = stR b (s.acked xs delay t).1 a cap ++ [row a1 3 cap1 (tInt .i64) (s.acked xs delay t).2.1, row a2 3 cap2 (tInt .i64) (s.acked xs delay t).2.2.1]) := by
  refine spec_of (args := [ptr b, .slice ad xs.length cap1, i6 delay, i6 t]) Go.Proofs.Try.func11 rfl rfl fun w0 hw0 => ?_
  have hn := ok.now
  unfold stR
  repeat' ((fail_if_success (refine isSeqR (id := 7) ?_)); first
    | (
        refine cw_region (id := 0) rfl ?_
        all_goals (refine ow_cons ?_; first | refine kBox (fun bN => ?_) | refine kBoxA (fun bN => ?_))
        all_goals refine wAssign ?_
        all_goals refine wAssign ?_
        all_goals refine wAssign ?_
        all_goals refine ow_nil ?_)
    | (
        refine cw_region (id := 1) rfl ?_
        all_goals refine wMove ?_
        all_goals refine wMove ?_
        all_goals (refine ow_cons ?_; (refine st_call (av := [_, _]) rfl (time_spec b s a cap t) (.cons selA (.nil _)) ?_; rintro v L' ⟨rfl, rfl⟩))
        all_goals refine wNot ?_
        all_goals refine wMove ?_
        all_goals (refine ow_cons ?_; first | refine gNo ?_ | refine gUn ?_ | (refine gYes ?_; refine kMove ?_) | (refine gTf ?_; refine kMove ?_) | refine gFf ?_ | (refine gSf (fun hc => ?_) (fun hc => ?_); rotate_left; (focus (refine kMove ?_)); rotate_right) | (refine gBf (fun hc => ?_) (fun hc => ?_); rotate_left; (focus (refine kMove ?_)); rotate_right))
        all_goals (refine ow_cons ?_; first | refine gNo ?_ | refine gUn ?_ | (refine gYes ?_; refine kLss ?_) | (refine gTf ?_; refine kLss ?_) | refine gFf ?_ | (refine gSf (fun hc => ?_) (fun hc => ?_); rotate_left; (focus (refine kLss ?_)); rotate_right) | (refine gBf (fun hc => ?_) (fun hc => ?_); rotate_left; (focus (refine kLss ?_)); rotate_right))
        all_goals refine wPick ?_
        all_goals refine wMove ?_
        all_goals (refine ow_cons ?_; first | refine gNo ?_ | refine gUn ?_ | (refine gYes ?_; refine kMove ?_) | (refine gTf ?_; refine kMove ?_) | refine gFf ?_ | (refine gSf (fun hc => ?_) (fun hc => ?_); rotate_left; (focus (refine kMove ?_)); rotate_right) | (refine gBf (fun hc => ?_) (fun hc => ?_); rotate_left; (focus (refine kMove ?_)); rotate_right))
        all_goals (refine ow_cons ?_; first | refine gNo ?_ | refine gUn ?_ | (refine gYes ?_; refine kGtr ?_) | (refine gTf ?_; refine kGtr ?_) | refine gFf ?_ | (refine gSf (fun hc => ?_) (fun hc => ?_); rotate_left; (focus (refine kGtr ?_)); rotate_right) | (refine gBf (fun hc => ?_) (fun hc => ?_); rotate_left; (focus (refine kGtr ?_)); rotate_right))
        all_goals refine wPick ?_
        all_goals refine ow_nil ?_)
    | (
        refine cw_region (id := 2) rfl ?_
        all_goals refine wAssign ?_
        all_goals refine wAssign ?_
        all_goals refine wAssign ?_
        all_goals refine ow_nil ?_)
    | (
        refine cw_region (id := 3) rfl ?_
        all_goals refine wMove ?_
        all_goals refine wLoad ?_
        all_goals (refine ow_cons ?_; (refine st_call (av := [_, _]) rfl (check28 b s a cap ad cap1 xs hx) (.cons selA (.cons selA (.nil _))) ?_; rintro v L' ⟨rfl, rfl⟩))
        all_goals refine wAssign ?_
        all_goals refine ow_nil ?_)
    | (
        refine cw_region (id := 4) rfl ?_
        all_goals refine wMove ?_
        all_goals refine wNeq ?_
        all_goals refine ow_nil ?_)
    | (
        refine cw_region (id := 5) rfl ?_
        all_goals refine wMove ?_
        all_goals refine wAssign ?_
        all_goals refine wAssign ?_
        all_goals refine wAssign ?_
        all_goals refine ow_nil ?_)
    | (
        refine cw_region (id := 6) rfl ?_
        all_goals refine wMove ?_
        all_goals refine wMove ?_
        all_goals refine wCheck ?_
        all_goals refine wField ?_
        all_goals (refine ow_cons ?_; first | refine kStore ?_ | refine kStoreA ?_ | refine kStoreR ?_)
        all_goals refine ow_nil ?_)
    | (
        refine cw_region (id := 8) rfl ?_
        all_goals refine wMove ?_
        all_goals refine wLen ?_
        all_goals refine wGtr ?_
        all_goals refine ow_nil ?_)
    | (
        refine cw_region (id := 9) rfl ?_
        all_goals refine wMove ?_
        all_goals refine wMove ?_
        all_goals refine wLen ?_
        all_goals refine wSub ?_
        all_goals (refine ow_cons ?_; first | refine kIndex ?_ | (refine kIdxR (fun g hg => ?_); subst hg) | (refine kIdxO (fun gb go hg => ?_); subst hg))
        all_goals refine wLoad ?_
        all_goals (refine ow_cons ?_; refine st_alloc (fun bN => ?_))
        all_goals (refine ow_cons ?_; first | refine kStore ?_ | refine kStoreA ?_ | refine kStoreR ?_)
        all_goals refine ow_nil ?_)
    | (
        refine cw_draw (id := 10) 7 (by kernel_rfl) (by kernel_rfl) rfl ?_
        all_goals refine hField ?_
        all_goals refine hLoad ?_
        all_goals refine hMove ?_
        all_goals refine hCheck ?_
        all_goals refine hField ?_
        all_goals refine hLoad ?_
        all_goals refine hGeq ?_
        all_goals refine hw_nil ?_
        all_goals refine ow_nil ?_)
    | (
        refine cw_region (id := 11) rfl ?_
        all_goals refine wMove ?_
        all_goals refine wField ?_
        all_goals refine wLoad ?_
        all_goals refine wCheck ?_
        all_goals refine wField ?_
        all_goals (refine ow_cons ?_; first | refine kStore ?_ | refine kStoreA ?_ | refine kStoreR ?_)
        all_goals refine ow_nil ?_)
    | (
        refine cw_region (id := 14) rfl ?_
        all_goals refine wMove ?_
        all_goals refine wLen ?_
        all_goals refine wMove ?_
        all_goals refine ow_nil ?_)
    | (
        refine cw_region (id := 15) rfl ?_
        all_goals refine wLss ?_
        all_goals refine ow_nil ?_)
    | (
        refine cw_region (id := 16) rfl ?_
        all_goals (refine ow_cons ?_; first | refine kIndex ?_ | (refine kIdxR (fun g hg => ?_); subst hg) | (refine kIdxO (fun gb go hg => ?_); subst hg))
        all_goals refine wLoad ?_
        all_goals (refine ow_cons ?_; refine st_alloc (fun bN => ?_))
        all_goals (refine ow_cons ?_; first | refine kStore ?_ | refine kStoreA ?_ | refine kStoreR ?_)
        all_goals refine ow_nil ?_)
    | (
        refine cw_region (id := 18) rfl ?_
        all_goals refine wAdd ?_
        all_goals refine wMove ?_
        all_goals refine ow_nil ?_)
    | (
        refine cw_region (id := 19) rfl ?_
        all_goals refine wMove ?_
        all_goals refine wCheck ?_
        all_goals refine wField ?_
        all_goals (refine ow_cons ?_; first | refine kStore ?_ | refine kStoreA ?_ | refine kStoreR ?_)
        all_goals refine ow_nil ?_)
    | refine cw_seq ?_
    | refine tq_n ?_
    | (refine isCW ?_; first | refine cw_region rfl ?_ | refine cw_skip ?_ | refine cw_ret ?_ | refine cw_exit ?_ | refine cw_block ?_ | refine cTrue ?_ | refine cFalse ?_ | refine cT ?_ | refine cF ?_ | refine cS (fun hc => ?_) (fun hc => ?_) | refine cB (fun hc => ?_) (fun hc => ?_))
    | refine tq_ret ?_ | refine tq_exit ?_ | refine bq_n ?_ | refine bq_ret ?_ | refine bq_same ?_ | refine bq_ne rfl ?_
    | refine ow_cons ?_ | refine ow_nil ?_
    | (refine isOpK ?_; first
      | (refine isG ?_; first | refine opk_yes rfl rfl ?_ | refine opk_no rfl rfl ?_ | refine opk_no_undef rfl rfl ?_ | refine opk_g_t rfl rfl (by omega) ?_ | refine opk_g_f rfl rfl (by omega) ?_ | refine opk_g_s rfl rfl (fun hc => ?_) (fun hc => ?_) | refine opk_g_b rfl rfl (fun hc => ?_) (fun hc => ?_))
      | refine kRd ?_
      | refine kStore ?_
      | refine kStoreA ?_
      | refine kStoreR ?_
      | (refine kIdxR (fun g hg => ?_); subst hg)
      | (refine kIdxO (fun gb go hg => ?_); subst hg)
      | refine st_alloc (fun bN => ?_)
      | refine kBox (fun bN => ?_)
      | refine kBoxA (fun bN => ?_)
      | (refine st_buildSlice rfl rfl rfl rfl (fun bN => ?_))
      | (refine st_clearR rfl selA rfl (by omega) rfl rfl rfl ?_)
      | (refine st_clearR rfl selA (by omega) (by omega) rfl rfl rfl ?_)
      | (refine st_call (av := [_, _]) rfl (time_spec b s a cap t) (.cons selA (.nil _)) ?_; rintro v L' ⟨rfl, rfl⟩)
      | (refine st_call (av := [_, _]) rfl (check28 b s a cap ad cap1 xs hx) (.cons selA (.cons selA (.nil _))) ?_; rintro v L' ⟨rfl, rfl⟩))
    | refine hw_cons ?_ | refine hw_nil ?_
    | (refine isOpS ?_; first
      | (refine os_isG ?_; first | refine os_yes rfl rfl ?_ | refine os_no rfl rfl ?_ | refine os_no_undef rfl rfl ?_ | refine os_g_t rfl rfl (by omega) ?_ | refine os_g_f rfl rfl (by omega) ?_ | refine os_g_s rfl rfl (fun hc => ?_) (fun hc => ?_) | refine os_g_b rfl rfl (fun hc => ?_) (fun hc => ?_))
      | refine sRd ?_))
  · rw [show s.acked xs delay t = (s, [], [], 1) by unfold St.acked; rw [if_pos (.inl hc)]]
    exact retQ_ret (retV_tmps [8, 9, 10] rfl rfl) ⟨none, 0, none, 0, rfl, rfl⟩ (fun _ _ h => pick4 (tr_addNil 3 (tInt .i64) (tr_addNil 3 (tInt .i64) h)) selA selA selA selA)
  · rw [show s.acked xs delay t = (s, [], [], 1) by unfold St.acked; rw [if_pos (.inr (.inl hc))]]
    exact retQ_ret (retV_tmps [8, 9, 10] rfl rfl) ⟨none, 0, none, 0, rfl, rfl⟩ (fun _ _ h => pick4 (tr_addNil 3 (tInt .i64) (tr_addNil 3 (tInt .i64) h)) selA selA selA selA)
  · rw [show s.acked xs delay t = (s, [], [], 1) by unfold St.acked; rw [if_pos (.inr (.inr hc))]]
    exact retQ_ret (retV_tmps [8, 9, 10] rfl rfl) ⟨none, 0, none, 0, rfl, rfl⟩ (fun _ _ h => pick4 (tr_addNil 3 (tInt .i64) (tr_addNil 3 (tInt .i64) h)) selA selA selA selA)
  · rename_i h1 h2 h3
    rw [show s.acked xs delay t = (s, [], [], s.badSp xs) by unfold St.acked; rw [if_neg (by rintro (h | h | h) <;> omega), if_pos hc]]
    exact retQ_ret (retV_tmps [8, 9, 10] rfl rfl) ⟨none, 0, none, 0, rfl, rfl⟩ (fun _ _ h => pick4 (tr_addNil 3 (tInt .i64) (tr_addNil 3 (tInt .i64) h)) selA selA selA selA)
  rename_i h1 h2 h3
  have hf : s.acked xs delay t = (((({ s with now := t } : St).outS fun q => inSp xs q.number).takes (({ s with now := t } : St).came xs) delay).give t, (({ s with now := t } : St).came xs).map (·.number),
      (((({ s with now := t } : St).outS fun q => inSp xs q.number).takes (({ s with now := t } : St).came xs) delay).waits.filter (((({ s with now := t } : St).outS fun q => inSp xs q.number).takes (({ s with now := t } : St).came xs) delay).lost t)).map (·.number), 0) := by
    unfold St.acked; rw [if_neg (by rintro (h | h | h) <;> omega), if_neg hc]
  have ok1 := now_ok ok (dnot h1)
  have hst : ({ s with now := t } : St).now = t := rfl
  refine CW.heap (L' := stR b { s with now := t } a cap ++ [blk bN 33 [.slice ad xs.length cap1], ro ad tSp xs]) ?_ ?_
  rotate_left
  · intro w h
    exact pick4 h selA selA selA selA
  generalize ({ s with now := t } : St) = s1 at hf ok1 hst ⊢
  refine cw_env [(0, ptr b), (2, i6 delay), (3, i6 t), (5, ptr bN)] ⟨rfl, rfl, rfl, rfl, trivial⟩ fun e' => ?_
  dsimp only [upds]
  repeat' ((fail_if_success (refine isSeqR (id := 8) ?_)); first
    | (
        refine cw_region (id := 0) rfl ?_
        all_goals (refine ow_cons ?_; first | refine kBox (fun bN => ?_) | refine kBoxA (fun bN => ?_))
        all_goals refine wAssign ?_
        all_goals refine wAssign ?_
        all_goals refine wAssign ?_
        all_goals refine ow_nil ?_)
    | (
        refine cw_region (id := 2) rfl ?_
        all_goals refine wAssign ?_
        all_goals refine wAssign ?_
        all_goals refine wAssign ?_
        all_goals refine ow_nil ?_)
    | (
        refine cw_region (id := 4) rfl ?_
        all_goals refine wMove ?_
        all_goals refine wNeq ?_
        all_goals refine ow_nil ?_)
    | (
        refine cw_region (id := 5) rfl ?_
        all_goals refine wMove ?_
        all_goals refine wAssign ?_
        all_goals refine wAssign ?_
        all_goals refine wAssign ?_
        all_goals refine ow_nil ?_)
    | (
        refine cw_region (id := 6) rfl ?_
        all_goals refine wMove ?_
        all_goals refine wMove ?_
        all_goals refine wCheck ?_
        all_goals refine wField ?_
        all_goals (refine ow_cons ?_; first | refine kStore ?_ | refine kStoreA ?_ | refine kStoreR ?_)
        all_goals refine ow_nil ?_)
    | (
        refine cw_region (id := 7) rfl ?_
        all_goals refine wMove ?_
        all_goals refine wFunc ?_
        all_goals (refine ow_cons ?_; (refine st_callA (av := [_, _]) rfl (outAcked b bN s1 a cap ad cap1 xs hx ok1) ?_; rintro v L' ⟨a', cap', rfl, rfl⟩))
        all_goals refine wAssign ?_
        all_goals refine ow_nil ?_)
    | (
        refine cw_region (id := 8) rfl ?_
        all_goals refine wMove ?_
        all_goals refine wLen ?_
        all_goals refine wGtr ?_
        all_goals refine ow_nil ?_)
    | (
        refine cw_region (id := 9) rfl ?_
        all_goals refine wMove ?_
        all_goals refine wMove ?_
        all_goals refine wLen ?_
        all_goals refine wSub ?_
        all_goals (refine ow_cons ?_; first | refine kIndex ?_ | (refine kIdxR (fun g hg => ?_); subst hg) | (refine kIdxO (fun gb go hg => ?_); subst hg))
        all_goals refine wLoad ?_
        all_goals (refine ow_cons ?_; refine st_alloc (fun bN => ?_))
        all_goals (refine ow_cons ?_; first | refine kStore ?_ | refine kStoreA ?_ | refine kStoreR ?_)
        all_goals refine ow_nil ?_)
    | (
        refine cw_draw (id := 10) 7 (by kernel_rfl) (by kernel_rfl) rfl ?_
        all_goals refine hField ?_
        all_goals refine hLoad ?_
        all_goals refine hMove ?_
        all_goals refine hCheck ?_
        all_goals refine hField ?_
        all_goals refine hLoad ?_
        all_goals refine hGeq ?_
        all_goals refine hw_nil ?_
        all_goals refine ow_nil ?_)
    | (
        refine cw_region (id := 11) rfl ?_
        all_goals refine wMove ?_
        all_goals refine wField ?_
        all_goals refine wLoad ?_
        all_goals refine wCheck ?_
        all_goals refine wField ?_
        all_goals (refine ow_cons ?_; first | refine kStore ?_ | refine kStoreA ?_ | refine kStoreR ?_)
        all_goals refine ow_nil ?_)
    | (
        refine cw_region (id := 14) rfl ?_
        all_goals refine wMove ?_
        all_goals refine wLen ?_
        all_goals refine wMove ?_
        all_goals refine ow_nil ?_)
    | (
        refine cw_region (id := 15) rfl ?_
        all_goals refine wLss ?_
        all_goals refine ow_nil ?_)
    | (
        refine cw_region (id := 16) rfl ?_
        all_goals (refine ow_cons ?_; first | refine kIndex ?_ | (refine kIdxR (fun g hg => ?_); subst hg) | (refine kIdxO (fun gb go hg => ?_); subst hg))
        all_goals refine wLoad ?_
        all_goals (refine ow_cons ?_; refine st_alloc (fun bN => ?_))
        all_goals (refine ow_cons ?_; first | refine kStore ?_ | refine kStoreA ?_ | refine kStoreR ?_)
        all_goals refine ow_nil ?_)
    | (
        refine cw_region (id := 18) rfl ?_
        all_goals refine wAdd ?_
        all_goals refine wMove ?_
        all_goals refine ow_nil ?_)
    | (
        refine cw_region (id := 19) rfl ?_
        all_goals refine wMove ?_
        all_goals refine wCheck ?_
        all_goals refine wField ?_
        all_goals (refine ow_cons ?_; first | refine kStore ?_ | refine kStoreA ?_ | refine kStoreR ?_)
        all_goals refine ow_nil ?_)
    | refine cw_seq ?_
    | refine tq_n ?_
    | (refine isCW ?_; first | refine cw_region rfl ?_ | refine cw_skip ?_ | refine cw_ret ?_ | refine cw_exit ?_ | refine cw_block ?_ | refine cTrue ?_ | refine cFalse ?_ | refine cT ?_ | refine cF ?_ | refine cS (fun hc => ?_) (fun hc => ?_) | refine cB (fun hc => ?_) (fun hc => ?_))
    | refine tq_ret ?_ | refine tq_exit ?_ | refine bq_n ?_ | refine bq_ret ?_ | refine bq_same ?_ | refine bq_ne rfl ?_
    | refine ow_cons ?_ | refine ow_nil ?_
    | (refine isOpK ?_; first
      | (refine isG ?_; first | refine opk_yes rfl rfl ?_ | refine opk_no rfl rfl ?_ | refine opk_no_undef rfl rfl ?_ | refine opk_g_t rfl rfl (by omega) ?_ | refine opk_g_f rfl rfl (by omega) ?_ | refine opk_g_s rfl rfl (fun hc => ?_) (fun hc => ?_) | refine opk_g_b rfl rfl (fun hc => ?_) (fun hc => ?_))
      | refine kRd ?_
      | refine kStore ?_
      | refine kStoreA ?_
      | refine kStoreR ?_
      | (refine kIdxR (fun g hg => ?_); subst hg)
      | (refine kIdxO (fun gb go hg => ?_); subst hg)
      | refine st_alloc (fun bN => ?_)
      | refine kBox (fun bN => ?_)
      | refine kBoxA (fun bN => ?_)
      | (refine st_buildSlice rfl rfl rfl rfl (fun bN => ?_))
      | (refine st_clearR rfl selA rfl (by omega) rfl rfl rfl ?_)
      | (refine st_clearR rfl selA (by omega) (by omega) rfl rfl rfl ?_)
      | (refine st_callA (av := [_, _]) rfl (outAcked b bN s1 a cap ad cap1 xs hx ok1) ?_; rintro v L' ⟨a', cap', rfl, rfl⟩))
    | refine hw_cons ?_ | refine hw_nil ?_
    | (refine isOpS ?_; first
      | (refine os_isG ?_; first | refine os_yes rfl rfl ?_ | refine os_no rfl rfl ?_ | refine os_no_undef rfl rfl ?_ | refine os_g_t rfl rfl (by omega) ?_ | refine os_g_f rfl rfl (by omega) ?_ | refine os_g_s rfl rfl (fun hc => ?_) (fun hc => ?_) | refine os_g_b rfl rfl (fun hc => ?_) (fun hc => ?_))
      | refine sRd ?_))
  have ok2 := outS_ok ok1 fun q => inSp xs q.number
  have hs2 : (s1.outS fun q => inSp xs q.number).now = t ∧ (s1.outS fun q => inSp xs q.number).top = s1.top := by
    have := offs_same s1 (s1.waits.filter fun q => inSp xs q.number)
    unfold sameBut at this
    exact ⟨by show (offs s1 _).now = t; rw [this]; exact hst, by show (offs s1 _).top = s1.top; rw [this]⟩
  have hcm : ∀ q ∈ s1.came xs, q.Ok t s1.top := fun q hq => hst ▸ ok1.each q (List.mem_filter.1 hq).1
  have hcl : (s1.came xs).length ≤ 1099511627777 := Nat.le_trans (List.length_filter_le _ _) ok1.len
  have htop := ok1.top
  rw [hf]
  generalize (s1.outS fun q => inSp xs q.number) = s2 at ok2 hs2 ⊢
  generalize s1.came xs = came at hcm hcl ⊢
  refine cw_env [(0, ptr b), (2, i6 delay), (3, i6 t), (12, .slice (oad a') came.length cap')] ⟨rfl, rfl, rfl, rfl, trivial⟩ fun e' => ?_
  dsimp only [upds]
  refine CW.heap (L' := stR b s2 a cap ++ [row a' 66 cap' tPk came]) ?_ ?_
  rotate_left
  · intro w h
    exact pick3 h selA selA selA
  unfold stR
  repeat' ((fail_if_success (refine isCondT (t := 43) ?_)); first
    | (
        refine cw_region (id := 0) rfl ?_
        all_goals (refine ow_cons ?_; first | refine kBox (fun bN => ?_) | refine kBoxA (fun bN => ?_))
        all_goals refine wAssign ?_
        all_goals refine wAssign ?_
        all_goals refine wAssign ?_
        all_goals refine ow_nil ?_)
    | (
        refine cw_region (id := 2) rfl ?_
        all_goals refine wAssign ?_
        all_goals refine wAssign ?_
        all_goals refine wAssign ?_
        all_goals refine ow_nil ?_)
    | (
        refine cw_region (id := 4) rfl ?_
        all_goals refine wMove ?_
        all_goals refine wNeq ?_
        all_goals refine ow_nil ?_)
    | (
        refine cw_region (id := 5) rfl ?_
        all_goals refine wMove ?_
        all_goals refine wAssign ?_
        all_goals refine wAssign ?_
        all_goals refine wAssign ?_
        all_goals refine ow_nil ?_)
    | (
        refine cw_region (id := 6) rfl ?_
        all_goals refine wMove ?_
        all_goals refine wMove ?_
        all_goals refine wCheck ?_
        all_goals refine wField ?_
        all_goals (refine ow_cons ?_; first | refine kStore ?_ | refine kStoreA ?_ | refine kStoreR ?_)
        all_goals refine ow_nil ?_)
    | (
        refine cw_region (id := 8) rfl ?_
        all_goals refine wMove ?_
        all_goals refine wLen ?_
        all_goals refine wGtr ?_
        all_goals refine ow_nil ?_)
    | (
        refine cw_region (id := 9) rfl ?_
        all_goals refine wMove ?_
        all_goals refine wMove ?_
        all_goals refine wLen ?_
        all_goals refine wSub ?_
        all_goals (refine ow_cons ?_; first | refine kIndex ?_ | (refine kIdxR (fun g hg => ?_); subst hg) | (refine kIdxO (fun gb go hg => ?_); subst hg))
        all_goals refine wLoad ?_
        all_goals (refine ow_cons ?_; refine st_alloc (fun bN => ?_))
        all_goals (refine ow_cons ?_; first | refine kStore ?_ | refine kStoreA ?_ | refine kStoreR ?_)
        all_goals refine ow_nil ?_)
    | (
        refine cw_draw (id := 10) 7 (by kernel_rfl) (by kernel_rfl) rfl ?_
        all_goals refine hField ?_
        all_goals refine hLoad ?_
        all_goals refine hMove ?_
        all_goals refine hCheck ?_
        all_goals refine hField ?_
        all_goals refine hLoad ?_
        all_goals refine hGeq ?_
        all_goals refine hw_nil ?_
        all_goals refine ow_nil ?_)
    | (
        refine cw_region (id := 11) rfl ?_
        all_goals refine wMove ?_
        all_goals refine wField ?_
        all_goals refine wLoad ?_
        all_goals refine wCheck ?_
        all_goals refine wField ?_
        all_goals (refine ow_cons ?_; first | refine kStore ?_ | refine kStoreA ?_ | refine kStoreR ?_)
        all_goals refine ow_nil ?_)
    | (
        refine cw_region (id := 14) rfl ?_
        all_goals refine wMove ?_
        all_goals refine wLen ?_
        all_goals refine wMove ?_
        all_goals refine ow_nil ?_)
    | (
        refine cw_region (id := 15) rfl ?_
        all_goals refine wLss ?_
        all_goals refine ow_nil ?_)
    | (
        refine cw_region (id := 16) rfl ?_
        all_goals (refine ow_cons ?_; first | refine kIndex ?_ | (refine kIdxR (fun g hg => ?_); subst hg) | (refine kIdxO (fun gb go hg => ?_); subst hg))
        all_goals refine wLoad ?_
        all_goals (refine ow_cons ?_; refine st_alloc (fun bN => ?_))
        all_goals (refine ow_cons ?_; first | refine kStore ?_ | refine kStoreA ?_ | refine kStoreR ?_)
        all_goals refine ow_nil ?_)
    | (
        refine cw_region (id := 18) rfl ?_
        all_goals refine wAdd ?_
        all_goals refine wMove ?_
        all_goals refine ow_nil ?_)
    | (
        refine cw_region (id := 19) rfl ?_
        all_goals refine wMove ?_
        all_goals refine wCheck ?_
        all_goals refine wField ?_
        all_goals (refine ow_cons ?_; first | refine kStore ?_ | refine kStoreA ?_ | refine kStoreR ?_)
        all_goals refine ow_nil ?_)
    | refine cw_seq ?_
    | refine tq_n ?_
    | (refine isCW ?_; first | refine cw_region rfl ?_ | refine cw_skip ?_ | refine cw_ret ?_ | refine cw_exit ?_ | refine cw_block ?_ | refine cTrue ?_ | refine cFalse ?_ | refine cT ?_ | refine cF ?_ | refine cS (fun hc => ?_) (fun hc => ?_) | refine cB (fun hc => ?_) (fun hc => ?_))
    | refine tq_ret ?_ | refine tq_exit ?_ | refine bq_n ?_ | refine bq_ret ?_ | refine bq_same ?_ | refine bq_ne rfl ?_
    | refine ow_cons ?_ | refine ow_nil ?_
    | (refine isOpK ?_; first
      | (refine isG ?_; first | refine opk_yes rfl rfl ?_ | refine opk_no rfl rfl ?_ | refine opk_no_undef rfl rfl ?_ | refine opk_g_t rfl rfl (by omega) ?_ | refine opk_g_f rfl rfl (by omega) ?_ | refine opk_g_s rfl rfl (fun hc => ?_) (fun hc => ?_) | refine opk_g_b rfl rfl (fun hc => ?_) (fun hc => ?_))
      | refine kRd ?_
      | refine kStore ?_
      | refine kStoreA ?_
      | refine kStoreR ?_
      | (refine kIdxR (fun g hg => ?_); subst hg)
      | (refine kIdxO (fun gb go hg => ?_); subst hg)
      | refine st_alloc (fun bN => ?_)
      | refine kBox (fun bN => ?_)
      | refine kBoxA (fun bN => ?_)
      | (refine st_buildSlice rfl rfl rfl rfl (fun bN => ?_))
      | (refine st_clearR rfl selA rfl (by omega) rfl rfl rfl ?_)
      | (refine st_clearR rfl selA (by omega) (by omega) rfl rfl rfl ?_))
    | refine hw_cons ?_ | refine hw_nil ?_
    | (refine isOpS ?_; first
      | (refine os_isG ?_; first | refine os_yes rfl rfl ?_ | refine os_no rfl rfl ?_ | refine os_no_undef rfl rfl ?_ | refine os_g_t rfl rfl (by omega) ?_ | refine os_g_f rfl rfl (by omega) ?_ | refine os_g_s rfl rfl (fun hc => ?_) (fun hc => ?_) | refine os_g_b rfl rfl (fun hc => ?_) (fun hc => ?_))
      | refine sRd ?_))
  refine cw_norm (S := fun _ : Unit => [(0, ptr b), (3, i6 t), (12, .slice (oad a') came.length cap')]) (H := fun _ => stR b (s2.takes came delay) a cap ++ [ro (oad a') tPk came]) (V := fun _ => True) ?_ ?_
  rotate_left
  · rintro - e' -
    have ok5 : (s2.takes came delay).Ok := takes_ok ok2 (by rw [hs2.1, hs2.2]; exact hcm) (by omega)
    generalize s2.takes came delay = s5 at ok5 ⊢
    have hw5 := ok5.window
    have hb5 := ok5.best
    have htp5 := ok5.top
    have hl5 := ok5.len
    have hnow : 0 ≤ t ∧ t ≤ 1099511627776 := by omega
    dsimp only [upds]
    unfold stR
    repeat' (first
      | (
          refine cw_region (id := 0) rfl ?_
          all_goals (refine ow_cons ?_; first | refine kBox (fun bN => ?_) | refine kBoxA (fun bN => ?_))
          all_goals refine wAssign ?_
          all_goals refine wAssign ?_
          all_goals refine wAssign ?_
          all_goals refine ow_nil ?_)
      | (
          refine cw_region (id := 2) rfl ?_
          all_goals refine wAssign ?_
          all_goals refine wAssign ?_
          all_goals refine wAssign ?_
          all_goals refine ow_nil ?_)
      | (
          refine cw_region (id := 4) rfl ?_
          all_goals refine wMove ?_
          all_goals refine wNeq ?_
          all_goals refine ow_nil ?_)
      | (
          refine cw_region (id := 5) rfl ?_
          all_goals refine wMove ?_
          all_goals refine wAssign ?_
          all_goals refine wAssign ?_
          all_goals refine wAssign ?_
          all_goals refine ow_nil ?_)
      | (
          refine cw_region (id := 6) rfl ?_
          all_goals refine wMove ?_
          all_goals refine wMove ?_
          all_goals refine wCheck ?_
          all_goals refine wField ?_
          all_goals (refine ow_cons ?_; first | refine kStore ?_ | refine kStoreA ?_ | refine kStoreR ?_)
          all_goals refine ow_nil ?_)
      | (
          refine cw_region (id := 8) rfl ?_
          all_goals refine wMove ?_
          all_goals refine wLen ?_
          all_goals refine wGtr ?_
          all_goals refine ow_nil ?_)
      | (
          refine cw_region (id := 9) rfl ?_
          all_goals refine wMove ?_
          all_goals refine wMove ?_
          all_goals refine wLen ?_
          all_goals refine wSub ?_
          all_goals (refine ow_cons ?_; first | refine kIndex ?_ | (refine kIdxR (fun g hg => ?_); subst hg) | (refine kIdxO (fun gb go hg => ?_); subst hg))
          all_goals refine wLoad ?_
          all_goals (refine ow_cons ?_; refine st_alloc (fun bN => ?_))
          all_goals (refine ow_cons ?_; first | refine kStore ?_ | refine kStoreA ?_ | refine kStoreR ?_)
          all_goals refine ow_nil ?_)
      | (
          refine cw_draw (id := 10) 7 (by kernel_rfl) (by kernel_rfl) rfl ?_
          all_goals refine hField ?_
          all_goals refine hLoad ?_
          all_goals refine hMove ?_
          all_goals refine hCheck ?_
          all_goals refine hField ?_
          all_goals refine hLoad ?_
          all_goals refine hGeq ?_
          all_goals refine hw_nil ?_
          all_goals refine ow_nil ?_)
      | (
          refine cw_region (id := 11) rfl ?_
          all_goals refine wMove ?_
          all_goals refine wField ?_
          all_goals refine wLoad ?_
          all_goals refine wCheck ?_
          all_goals refine wField ?_
          all_goals (refine ow_cons ?_; first | refine kStore ?_ | refine kStoreA ?_ | refine kStoreR ?_)
          all_goals refine ow_nil ?_)
      | (
          refine cw_region (id := 14) rfl ?_
          all_goals refine wMove ?_
          all_goals refine wLen ?_
          all_goals refine wMove ?_
          all_goals refine ow_nil ?_)
      | (
          refine cw_region (id := 15) rfl ?_
          all_goals refine wLss ?_
          all_goals refine ow_nil ?_)
      | (
          refine cw_region (id := 16) rfl ?_
          all_goals (refine ow_cons ?_; first | refine kIndex ?_ | (refine kIdxR (fun g hg => ?_); subst hg) | (refine kIdxO (fun gb go hg => ?_); subst hg))
          all_goals refine wLoad ?_
          all_goals (refine ow_cons ?_; refine st_alloc (fun bN => ?_))
          all_goals (refine ow_cons ?_; first | refine kStore ?_ | refine kStoreA ?_ | refine kStoreR ?_)
          all_goals refine ow_nil ?_)
      | (
          refine cw_region (id := 18) rfl ?_
          all_goals refine wAdd ?_
          all_goals refine wMove ?_
          all_goals refine ow_nil ?_)
      | (
          refine cw_region (id := 19) rfl ?_
          all_goals refine wMove ?_
          all_goals refine wCheck ?_
          all_goals refine wField ?_
          all_goals (refine ow_cons ?_; first | refine kStore ?_ | refine kStoreA ?_ | refine kStoreR ?_)
          all_goals refine ow_nil ?_)
      | (
          refine cw_region (id := 20) rfl ?_
          all_goals refine wMove ?_
          all_goals (refine ow_cons ?_; (refine st_call (av := [_]) rfl (((numbers37 (oad a') cap' came (by omega)))) (.cons selA (.nil _)) ?_; rintro v L' ⟨a2, cap2, rfl, rfl⟩))
          all_goals refine wMove ?_
          all_goals refine wMove ?_
          all_goals (refine ow_cons ?_; (refine st_call (av := [_, _]) rfl (give38 b s5 a cap t ok5.smooth ok5.last (by omega) hnow (by omega) (by omega) ok5.fl (fun q hq => (ok5.each q hq).size)) (.cons selA (.cons selA (.nil _))) ?_; rintro v L' ⟨a3, cap3, rfl, rfl⟩))
          all_goals refine wAssign ?_
          all_goals refine wAssign ?_
          all_goals refine wAssign ?_
          all_goals refine ow_nil ?_)
      | refine cw_seq ?_
      | refine tq_n ?_
      | (refine isCW ?_; first | refine cw_region rfl ?_ | refine cw_skip ?_ | refine cw_ret ?_ | refine cw_exit ?_ | refine cw_block ?_ | refine cTrue ?_ | refine cFalse ?_ | refine cT ?_ | refine cF ?_ | refine cS (fun hc => ?_) (fun hc => ?_) | refine cB (fun hc => ?_) (fun hc => ?_))
      | refine tq_ret ?_ | refine tq_exit ?_ | refine bq_n ?_ | refine bq_ret ?_ | refine bq_same ?_ | refine bq_ne rfl ?_
      | refine ow_cons ?_ | refine ow_nil ?_
      | (refine isOpK ?_; first
        | (refine isG ?_; first | refine opk_yes rfl rfl ?_ | refine opk_no rfl rfl ?_ | refine opk_no_undef rfl rfl ?_ | refine opk_g_t rfl rfl (by omega) ?_ | refine opk_g_f rfl rfl (by omega) ?_ | refine opk_g_s rfl rfl (fun hc => ?_) (fun hc => ?_) | refine opk_g_b rfl rfl (fun hc => ?_) (fun hc => ?_))
        | refine kRd ?_
        | refine kStore ?_
        | refine kStoreA ?_
        | refine kStoreR ?_
        | (refine kIdxR (fun g hg => ?_); subst hg)
        | (refine kIdxO (fun gb go hg => ?_); subst hg)
        | refine st_alloc (fun bN => ?_)
        | refine kBox (fun bN => ?_)
        | refine kBoxA (fun bN => ?_)
        | (refine st_buildSlice rfl rfl rfl rfl (fun bN => ?_))
        | (refine st_clearR rfl selA rfl (by omega) rfl rfl rfl ?_)
        | (refine st_clearR rfl selA (by omega) (by omega) rfl rfl rfl ?_)
        | (refine st_call (av := [_]) rfl (((numbers37 (oad a') cap' came (by omega)))) (.cons selA (.nil _)) ?_; rintro v L' ⟨a2, cap2, rfl, rfl⟩)
        | (refine st_call (av := [_, _]) rfl (give38 b s5 a cap t ok5.smooth ok5.last (by omega) hnow (by omega) (by omega) ok5.fl (fun q hq => (ok5.each q hq).size)) (.cons selA (.cons selA (.nil _))) ?_; rintro v L' ⟨a3, cap3, rfl, rfl⟩))
      | refine hw_cons ?_ | refine hw_nil ?_
      | (refine isOpS ?_; first
        | (refine os_isG ?_; first | refine os_yes rfl rfl ?_ | refine os_no rfl rfl ?_ | refine os_no_undef rfl rfl ?_ | refine os_g_t rfl rfl (by omega) ?_ | refine os_g_f rfl rfl (by omega) ?_ | refine os_g_s rfl rfl (fun hc => ?_) (fun hc => ?_) | refine os_g_b rfl rfl (fun hc => ?_) (fun hc => ?_))
        | refine sRd ?_))
    exact retQ_ret (retV_tmps [8, 9, 10] rfl rfl) ⟨a2, cap2, a3, cap3, by simp only [ackedV, List.length_map]; rfl, rfl⟩ (fun _ _ h => pick4 h selA selA selA selA)
  cases hgl : came.getLast? with
  | none =>
    have hnil : came = [] := List.getLast?_eq_none_iff.1 hgl
    subst hnil
    repeat' (first
      | (
          refine cw_region (id := 0) rfl ?_
          all_goals (refine ow_cons ?_; first | refine kBox (fun bN => ?_) | refine kBoxA (fun bN => ?_))
          all_goals refine wAssign ?_
          all_goals refine wAssign ?_
          all_goals refine wAssign ?_
          all_goals refine ow_nil ?_)
      | (
          refine cw_region (id := 2) rfl ?_
          all_goals refine wAssign ?_
          all_goals refine wAssign ?_
          all_goals refine wAssign ?_
          all_goals refine ow_nil ?_)
      | (
          refine cw_region (id := 4) rfl ?_
          all_goals refine wMove ?_
          all_goals refine wNeq ?_
          all_goals refine ow_nil ?_)
      | (
          refine cw_region (id := 5) rfl ?_
          all_goals refine wMove ?_
          all_goals refine wAssign ?_
          all_goals refine wAssign ?_
          all_goals refine wAssign ?_
          all_goals refine ow_nil ?_)
      | (
          refine cw_region (id := 6) rfl ?_
          all_goals refine wMove ?_
          all_goals refine wMove ?_
          all_goals refine wCheck ?_
          all_goals refine wField ?_
          all_goals (refine ow_cons ?_; first | refine kStore ?_ | refine kStoreA ?_ | refine kStoreR ?_)
          all_goals refine ow_nil ?_)
      | (
          refine cw_region (id := 8) rfl ?_
          all_goals refine wMove ?_
          all_goals refine wLen ?_
          all_goals refine wGtr ?_
          all_goals refine ow_nil ?_)
      | (
          refine cw_region (id := 9) rfl ?_
          all_goals refine wMove ?_
          all_goals refine wMove ?_
          all_goals refine wLen ?_
          all_goals refine wSub ?_
          all_goals (refine ow_cons ?_; first | refine kIndex ?_ | (refine kIdxR (fun g hg => ?_); subst hg) | (refine kIdxO (fun gb go hg => ?_); subst hg))
          all_goals refine wLoad ?_
          all_goals (refine ow_cons ?_; refine st_alloc (fun bN => ?_))
          all_goals (refine ow_cons ?_; first | refine kStore ?_ | refine kStoreA ?_ | refine kStoreR ?_)
          all_goals refine ow_nil ?_)
      | (
          refine cw_draw (id := 10) 7 (by kernel_rfl) (by kernel_rfl) rfl ?_
          all_goals refine hField ?_
          all_goals refine hLoad ?_
          all_goals refine hMove ?_
          all_goals refine hCheck ?_
          all_goals refine hField ?_
          all_goals refine hLoad ?_
          all_goals refine hGeq ?_
          all_goals refine hw_nil ?_
          all_goals refine ow_nil ?_)
      | (
          refine cw_region (id := 11) rfl ?_
          all_goals refine wMove ?_
          all_goals refine wField ?_
          all_goals refine wLoad ?_
          all_goals refine wCheck ?_
          all_goals refine wField ?_
          all_goals (refine ow_cons ?_; first | refine kStore ?_ | refine kStoreA ?_ | refine kStoreR ?_)
          all_goals refine ow_nil ?_)
      | (
          refine cw_region (id := 14) rfl ?_
          all_goals refine wMove ?_
          all_goals refine wLen ?_
          all_goals refine wMove ?_
          all_goals refine ow_nil ?_)
      | (
          refine cw_region (id := 15) rfl ?_
          all_goals refine wLss ?_
          all_goals refine ow_nil ?_)
      | (
          refine cw_region (id := 16) rfl ?_
          all_goals (refine ow_cons ?_; first | refine kIndex ?_ | (refine kIdxR (fun g hg => ?_); subst hg) | (refine kIdxO (fun gb go hg => ?_); subst hg))
          all_goals refine wLoad ?_
          all_goals (refine ow_cons ?_; refine st_alloc (fun bN => ?_))
          all_goals (refine ow_cons ?_; first | refine kStore ?_ | refine kStoreA ?_ | refine kStoreR ?_)
          all_goals refine ow_nil ?_)
      | (
          refine cw_region (id := 18) rfl ?_
          all_goals refine wAdd ?_
          all_goals refine wMove ?_
          all_goals refine ow_nil ?_)
      | (
          refine cw_region (id := 19) rfl ?_
          all_goals refine wMove ?_
          all_goals refine wCheck ?_
          all_goals refine wField ?_
          all_goals (refine ow_cons ?_; first | refine kStore ?_ | refine kStoreA ?_ | refine kStoreR ?_)
          all_goals refine ow_nil ?_)
      | refine cw_seq ?_
      | refine tq_n ?_
      | (refine isCW ?_; first | refine cw_region rfl ?_ | refine cw_skip ?_ | refine cw_ret ?_ | refine cw_exit ?_ | refine cw_block ?_ | refine cTrue ?_ | refine cFalse ?_ | refine cT ?_ | refine cF ?_ | refine cS (fun hc => ?_) (fun hc => ?_) | refine cB (fun hc => ?_) (fun hc => ?_))
      | refine tq_ret ?_ | refine tq_exit ?_ | refine bq_n ?_ | refine bq_ret ?_ | refine bq_same ?_ | refine bq_ne rfl ?_
      | refine ow_cons ?_ | refine ow_nil ?_
      | (refine isOpK ?_; first
        | (refine isG ?_; first | refine opk_yes rfl rfl ?_ | refine opk_no rfl rfl ?_ | refine opk_no_undef rfl rfl ?_ | refine opk_g_t rfl rfl (by omega) ?_ | refine opk_g_f rfl rfl (by omega) ?_ | refine opk_g_s rfl rfl (fun hc => ?_) (fun hc => ?_) | refine opk_g_b rfl rfl (fun hc => ?_) (fun hc => ?_))
        | refine kRd ?_
        | refine kStore ?_
        | refine kStoreA ?_
        | refine kStoreR ?_
        | (refine kIdxR (fun g hg => ?_); subst hg)
        | (refine kIdxO (fun gb go hg => ?_); subst hg)
        | refine st_alloc (fun bN => ?_)
        | refine kBox (fun bN => ?_)
        | refine kBoxA (fun bN => ?_)
        | (refine st_buildSlice rfl rfl rfl rfl (fun bN => ?_))
        | (refine st_clearR rfl selA rfl (by omega) rfl rfl rfl ?_)
        | (refine st_clearR rfl selA (by omega) (by omega) rfl rfl rfl ?_))
      | refine hw_cons ?_ | refine hw_nil ?_
      | (refine isOpS ?_; first
        | (refine os_isG ?_; first | refine os_yes rfl rfl ?_ | refine os_no rfl rfl ?_ | refine os_no_undef rfl rfl ?_ | refine os_g_t rfl rfl (by omega) ?_ | refine os_g_f rfl rfl (by omega) ?_ | refine os_g_s rfl rfl (fun hc => ?_) (fun hc => ?_) | refine os_g_b rfl rfl (fun hc => ?_) (fun hc => ?_))
        | refine sRd ?_))
    exact nm_end () ⟨rfl, rfl, rfl, trivial⟩ trivial (fun w h => by have := tr_row_ro (a := a') (T := 66) (cap := cap') (τ := tPk) (xs := ([] : List Pk)) selA h; exact pick3 this selA selA selA)
  | some lst =>
    have hne : 0 < came.length := by
      cases came with
      | nil => simp at hgl
      | cons q l => simp
    have hlast : came[came.length - 1]? = some lst := by rw [← List.getLast?_eq_getElem?]; exact hgl
    have hlok := hcm lst (List.mem_of_getLast? hgl)
    have hl1 := hlok.at_
    have hl2 := hlok.number
    have htk : s2.takes came delay = { came.foldl St.grow (s2.takes1 lst came delay) with tries := 0 } := by unfold St.takes; rw [hgl]
    repeat' ((fail_if_success (refine isCondT (t := 56) ?_)); first
      | (
          refine cw_region (id := 0) rfl ?_
          all_goals (refine ow_cons ?_; first | refine kBox (fun bN => ?_) | refine kBoxA (fun bN => ?_))
          all_goals refine wAssign ?_
          all_goals refine wAssign ?_
          all_goals refine wAssign ?_
          all_goals refine ow_nil ?_)
      | (
          refine cw_region (id := 2) rfl ?_
          all_goals refine wAssign ?_
          all_goals refine wAssign ?_
          all_goals refine wAssign ?_
          all_goals refine ow_nil ?_)
      | (
          refine cw_region (id := 4) rfl ?_
          all_goals refine wMove ?_
          all_goals refine wNeq ?_
          all_goals refine ow_nil ?_)
      | (
          refine cw_region (id := 5) rfl ?_
          all_goals refine wMove ?_
          all_goals refine wAssign ?_
          all_goals refine wAssign ?_
          all_goals refine wAssign ?_
          all_goals refine ow_nil ?_)
      | (
          refine cw_region (id := 6) rfl ?_
          all_goals refine wMove ?_
          all_goals refine wMove ?_
          all_goals refine wCheck ?_
          all_goals refine wField ?_
          all_goals (refine ow_cons ?_; first | refine kStore ?_ | refine kStoreA ?_ | refine kStoreR ?_)
          all_goals refine ow_nil ?_)
      | (
          refine cw_region (id := 8) rfl ?_
          all_goals refine wMove ?_
          all_goals refine wLen ?_
          all_goals refine wGtr ?_
          all_goals refine ow_nil ?_)
      | (
          refine cw_region (id := 9) rfl ?_
          all_goals refine wMove ?_
          all_goals refine wMove ?_
          all_goals refine wLen ?_
          all_goals refine wSub ?_
          all_goals (refine ow_cons ?_; first | refine kIndex ?_ | (refine st_idxRi (came.length - 1) (by omega) rfl rfl selA (by omega) (by omega) (fun g hg => ?_); subst hg) | (refine kIdxR (fun g hg => ?_); subst hg) | (refine kIdxO (fun gb go hg => ?_); subst hg))
          all_goals refine wLoad ?_
          all_goals (refine ow_cons ?_; refine st_alloc (fun bN => ?_))
          all_goals (refine ow_cons ?_; first | refine kStore ?_ | refine kStoreA ?_ | refine kStoreR ?_)
          all_goals refine ow_nil ?_)
      | (
          refine cw_draw (id := 10) 7 (by kernel_rfl) (by kernel_rfl) rfl ?_
          all_goals refine hField ?_
          all_goals refine hLoad ?_
          all_goals refine hMove ?_
          all_goals refine hCheck ?_
          all_goals refine hField ?_
          all_goals refine hLoad ?_
          all_goals refine hGeq ?_
          all_goals refine hw_nil ?_
          all_goals refine ow_nil ?_)
      | (
          refine cw_region (id := 11) rfl ?_
          all_goals refine wMove ?_
          all_goals refine wField ?_
          all_goals refine wLoad ?_
          all_goals refine wCheck ?_
          all_goals refine wField ?_
          all_goals (refine ow_cons ?_; first | refine kStore ?_ | refine kStoreA ?_ | refine kStoreR ?_)
          all_goals refine ow_nil ?_)
      | (
          refine cw_region (id := 14) rfl ?_
          all_goals refine wMove ?_
          all_goals refine wLen ?_
          all_goals refine wMove ?_
          all_goals refine ow_nil ?_)
      | (
          refine cw_region (id := 15) rfl ?_
          all_goals refine wLss ?_
          all_goals refine ow_nil ?_)
      | (
          refine cw_region (id := 16) rfl ?_
          all_goals (refine ow_cons ?_; first | refine kIndex ?_ | (refine st_idxRi (came.length - 1) (by omega) rfl rfl selA (by omega) (by omega) (fun g hg => ?_); subst hg) | (refine kIdxR (fun g hg => ?_); subst hg) | (refine kIdxO (fun gb go hg => ?_); subst hg))
          all_goals refine wLoad ?_
          all_goals (refine ow_cons ?_; refine st_alloc (fun bN => ?_))
          all_goals (refine ow_cons ?_; first | refine kStore ?_ | refine kStoreA ?_ | refine kStoreR ?_)
          all_goals refine ow_nil ?_)
      | (
          refine cw_region (id := 18) rfl ?_
          all_goals refine wAdd ?_
          all_goals refine wMove ?_
          all_goals refine ow_nil ?_)
      | (
          refine cw_region (id := 19) rfl ?_
          all_goals refine wMove ?_
          all_goals refine wCheck ?_
          all_goals refine wField ?_
          all_goals (refine ow_cons ?_; first | refine kStore ?_ | refine kStoreA ?_ | refine kStoreR ?_)
          all_goals refine ow_nil ?_)
      | refine cw_seq ?_
      | refine tq_n ?_
      | (refine isCW ?_; first | refine cw_region rfl ?_ | refine cw_skip ?_ | refine cw_ret ?_ | refine cw_exit ?_ | refine cw_block ?_ | refine cTrue ?_ | refine cFalse ?_ | refine cT ?_ | refine cF ?_ | refine cS (fun hc => ?_) (fun hc => ?_) | refine cB (fun hc => ?_) (fun hc => ?_))
      | refine tq_ret ?_ | refine tq_exit ?_ | refine bq_n ?_ | refine bq_ret ?_ | refine bq_same ?_ | refine bq_ne rfl ?_
      | refine ow_cons ?_ | refine ow_nil ?_
      | (refine isOpK ?_; first
        | (refine isG ?_; first | refine opk_yes rfl rfl ?_ | refine opk_no rfl rfl ?_ | refine opk_no_undef rfl rfl ?_ | refine opk_g_t rfl rfl (by omega) ?_ | refine opk_g_f rfl rfl (by omega) ?_ | refine opk_g_s rfl rfl (fun hc => ?_) (fun hc => ?_) | refine opk_g_b rfl rfl (fun hc => ?_) (fun hc => ?_))
        | refine kRd ?_
        | refine kStore ?_
        | refine kStoreA ?_
        | refine kStoreR ?_
        | (refine st_idxRi (came.length - 1) (by omega) rfl rfl selA (by omega) (by omega) (fun g hg => ?_); subst hg)
        | (refine kIdxR (fun g hg => ?_); subst hg)
        | (refine kIdxO (fun gb go hg => ?_); subst hg)
        | refine st_alloc (fun bN => ?_)
        | refine kBox (fun bN => ?_)
        | refine kBoxA (fun bN => ?_)
        | (refine st_buildSlice rfl rfl rfl rfl (fun bN => ?_))
        | (refine st_clearR rfl selA rfl (by omega) rfl rfl rfl ?_)
        | (refine st_clearR rfl selA (by omega) (by omega) rfl rfl rfl ?_))
      | refine hw_cons ?_ | refine hw_nil ?_
      | (refine isOpS ?_; first
        | (refine os_isG ?_; first | refine os_yes rfl rfl ?_ | refine os_no rfl rfl ?_ | refine os_no_undef rfl rfl ?_ | refine os_g_t rfl rfl (by omega) ?_ | refine os_g_f rfl rfl (by omega) ?_ | refine os_g_s rfl rfl (fun hc => ?_) (fun hc => ?_) | refine os_g_b rfl rfl (fun hc => ?_) (fun hc => ?_))
        | refine sRd ?_))
    refine cw_norm (S := fun _ : Unit => [(0, ptr b), (3, i6 t), (12, .slice (oad (some g)) came.length cap')]) (H := fun _ => stR b (s2.takes1 lst came delay) a cap ++ [row (some g) 66 cap' tPk came]) (V := fun _ => True) ?_ ?_
    · have ht1 : s2.takes1 lst came delay = if s2.best ≤ lst.number then (if came.any (·.asks) then ({ s2 with best := lst.number } : St).sample (t - lst.at_) delay else { s2 with best := lst.number }) else s2 := by
        unfold St.takes1; rw [hs2.1]
      have hs2s := ok2.smooth
      have hs2v := ok2.vary
      have hs2l := ok2.least
      have htt : 0 ≤ t ∧ t ≤ 1099511627776 := by have := ok2.now; omega
      repeat' (first
        | (
            refine cw_region (id := 0) rfl ?_
            all_goals (refine ow_cons ?_; first | refine kBox (fun bN => ?_) | refine kBoxA (fun bN => ?_))
            all_goals refine wAssign ?_
            all_goals refine wAssign ?_
            all_goals refine wAssign ?_
            all_goals refine ow_nil ?_)
        | (
            refine cw_region (id := 2) rfl ?_
            all_goals refine wAssign ?_
            all_goals refine wAssign ?_
            all_goals refine wAssign ?_
            all_goals refine ow_nil ?_)
        | (
            refine cw_region (id := 4) rfl ?_
            all_goals refine wMove ?_
            all_goals refine wNeq ?_
            all_goals refine ow_nil ?_)
        | (
            refine cw_region (id := 5) rfl ?_
            all_goals refine wMove ?_
            all_goals refine wAssign ?_
            all_goals refine wAssign ?_
            all_goals refine wAssign ?_
            all_goals refine ow_nil ?_)
        | (
            refine cw_region (id := 6) rfl ?_
            all_goals refine wMove ?_
            all_goals refine wMove ?_
            all_goals refine wCheck ?_
            all_goals refine wField ?_
            all_goals (refine ow_cons ?_; first | refine kStore ?_ | refine kStoreA ?_ | refine kStoreR ?_)
            all_goals refine ow_nil ?_)
        | (
            refine cw_region (id := 8) rfl ?_
            all_goals refine wMove ?_
            all_goals refine wLen ?_
            all_goals refine wGtr ?_
            all_goals refine ow_nil ?_)
        | (
            refine cw_region (id := 9) rfl ?_
            all_goals refine wMove ?_
            all_goals refine wMove ?_
            all_goals refine wLen ?_
            all_goals refine wSub ?_
            all_goals (refine ow_cons ?_; first | refine kIndex ?_ | (refine kIdxR (fun g hg => ?_); subst hg) | (refine kIdxO (fun gb go hg => ?_); subst hg))
            all_goals refine wLoad ?_
            all_goals (refine ow_cons ?_; refine st_alloc (fun bN => ?_))
            all_goals (refine ow_cons ?_; first | refine kStore ?_ | refine kStoreA ?_ | refine kStoreR ?_)
            all_goals refine ow_nil ?_)
        | (
            refine cw_draw (id := 10) 7 (by kernel_rfl) (by kernel_rfl) rfl ?_
            all_goals refine hField ?_
            all_goals refine hLoad ?_
            all_goals refine hMove ?_
            all_goals refine hCheck ?_
            all_goals refine hField ?_
            all_goals refine hLoad ?_
            all_goals refine hGeq ?_
            all_goals refine hw_nil ?_
            all_goals refine ow_nil ?_)
        | (
            refine cw_region (id := 11) rfl ?_
            all_goals refine wMove ?_
            all_goals refine wField ?_
            all_goals refine wLoad ?_
            all_goals refine wCheck ?_
            all_goals refine wField ?_
            all_goals (refine ow_cons ?_; first | refine kStore ?_ | refine kStoreA ?_ | refine kStoreR ?_)
            all_goals refine ow_nil ?_)
        | (
            refine cw_region (id := 12) rfl ?_
            all_goals refine wMove ?_
            all_goals (refine ow_cons ?_; (refine st_call (av := [_, _]) rfl (contains33 (fid := 34) [] [] (oad (some g)) cap' came (·.asks) (by omega) (fun x _ => acked34 x)).row_ro (.cons selA (.nil _)) ?_; rintro v L' ⟨rfl, rfl⟩))
            all_goals refine ow_nil ?_)
        | (
            refine cw_region (id := 13) rfl ?_
            all_goals refine wMove ?_
            all_goals refine wMove ?_
            all_goals refine wField ?_
            all_goals refine wLoad ?_
            all_goals refine wSub ?_
            all_goals refine wMove ?_
            all_goals (refine ow_cons ?_; (refine st_call (av := [_, _, _]) rfl (sample_spec b { s2 with best := lst.number } a cap (t - lst.at_) delay hs2s hs2v hs2l (by omega) (by omega)) (.cons selA (.nil _)) ?_; rintro v L' rfl))
            all_goals refine ow_nil ?_)
        | (
            refine cw_region (id := 14) rfl ?_
            all_goals refine wMove ?_
            all_goals refine wLen ?_
            all_goals refine wMove ?_
            all_goals refine ow_nil ?_)
        | (
            refine cw_region (id := 15) rfl ?_
            all_goals refine wLss ?_
            all_goals refine ow_nil ?_)
        | (
            refine cw_region (id := 16) rfl ?_
            all_goals (refine ow_cons ?_; first | refine kIndex ?_ | (refine kIdxR (fun g hg => ?_); subst hg) | (refine kIdxO (fun gb go hg => ?_); subst hg))
            all_goals refine wLoad ?_
            all_goals (refine ow_cons ?_; refine st_alloc (fun bN => ?_))
            all_goals (refine ow_cons ?_; first | refine kStore ?_ | refine kStoreA ?_ | refine kStoreR ?_)
            all_goals refine ow_nil ?_)
        | (
            refine cw_region (id := 18) rfl ?_
            all_goals refine wAdd ?_
            all_goals refine wMove ?_
            all_goals refine ow_nil ?_)
        | (
            refine cw_region (id := 19) rfl ?_
            all_goals refine wMove ?_
            all_goals refine wCheck ?_
            all_goals refine wField ?_
            all_goals (refine ow_cons ?_; first | refine kStore ?_ | refine kStoreA ?_ | refine kStoreR ?_)
            all_goals refine ow_nil ?_)
        | refine cw_seq ?_
        | refine tq_n ?_
        | (refine isCW ?_; first | refine cw_region rfl ?_ | refine cw_skip ?_ | refine cw_ret ?_ | refine cw_exit ?_ | refine cw_block ?_ | refine cTrue ?_ | refine cFalse ?_ | refine cT ?_ | refine cF ?_ | refine cS (fun hc => ?_) (fun hc => ?_) | refine cB (fun hc => ?_) (fun hc => ?_))
        | refine tq_ret ?_ | refine tq_exit ?_ | refine bq_n ?_ | refine bq_ret ?_ | refine bq_same ?_ | refine bq_ne rfl ?_
        | refine ow_cons ?_ | refine ow_nil ?_
        | (refine isOpK ?_; first
          | (refine isG ?_; first | refine opk_yes rfl rfl ?_ | refine opk_no rfl rfl ?_ | refine opk_no_undef rfl rfl ?_ | refine opk_g_t rfl rfl (by omega) ?_ | refine opk_g_f rfl rfl (by omega) ?_ | refine opk_g_s rfl rfl (fun hc => ?_) (fun hc => ?_) | refine opk_g_b rfl rfl (fun hc => ?_) (fun hc => ?_))
          | refine kRd ?_
          | refine kStore ?_
          | refine kStoreA ?_
          | refine kStoreR ?_
          | (refine kIdxR (fun g hg => ?_); subst hg)
          | (refine kIdxO (fun gb go hg => ?_); subst hg)
          | refine st_alloc (fun bN => ?_)
          | refine kBox (fun bN => ?_)
          | refine kBoxA (fun bN => ?_)
          | (refine st_buildSlice rfl rfl rfl rfl (fun bN => ?_))
          | (refine st_clearR rfl selA rfl (by omega) rfl rfl rfl ?_)
          | (refine st_clearR rfl selA (by omega) (by omega) rfl rfl rfl ?_)
          | (refine st_call (av := [_, _]) rfl (contains33 (fid := 34) [] [] (oad (some g)) cap' came (·.asks) (by omega) (fun x _ => acked34 x)).row_ro (.cons selA (.nil _)) ?_; rintro v L' ⟨rfl, rfl⟩)
          | (refine st_call (av := [_, _, _]) rfl (sample_spec b { s2 with best := lst.number } a cap (t - lst.at_) delay hs2s hs2v hs2l (by omega) (by omega)) (.cons selA (.nil _)) ?_; rintro v L' rfl))
        | refine hw_cons ?_ | refine hw_nil ?_
        | (refine isOpS ?_; first
          | (refine os_isG ?_; first | refine os_yes rfl rfl ?_ | refine os_no rfl rfl ?_ | refine os_no_undef rfl rfl ?_ | refine os_g_t rfl rfl (by omega) ?_ | refine os_g_f rfl rfl (by omega) ?_ | refine os_g_s rfl rfl (fun hc => ?_) (fun hc => ?_) | refine os_g_b rfl rfl (fun hc => ?_) (fun hc => ?_))
          | refine sRd ?_))
      · rename_i h1
        rw [if_pos h1, if_pos hc] at ht1
        have hwv : (s2.takes1 lst came delay).waits = s2.waits := by rw [ht1, sample_waits]
        refine nm_end () ⟨rfl, rfl, rfl, trivial⟩ trivial (fun w h => ?_)
        show Tr _ _ w [blk b 63 (encS (s2.takes1 lst came delay) a cap), row a 66 cap tPk (s2.takes1 lst came delay).waits, row (some g) 66 cap' tPk came]
        rw [hwv, ht1]
        exact pick3 h selA selA selA
      · rename_i h1
        rw [if_pos h1, if_neg (by simp [hc])] at ht1
        refine nm_end () ⟨rfl, rfl, rfl, trivial⟩ trivial (fun w h => ?_)
        show Tr _ _ w [blk b 63 (encS (s2.takes1 lst came delay) a cap), row a 66 cap tPk (s2.takes1 lst came delay).waits, row (some g) 66 cap' tPk came]
        rw [ht1]
        exact pick3 h selA selA selA
      · rw [if_neg hc] at ht1
        refine nm_end () ⟨rfl, rfl, rfl, trivial⟩ trivial (fun w h => ?_)
        show Tr _ _ w [blk b 63 (encS (s2.takes1 lst came delay) a cap), row a 66 cap tPk (s2.takes1 lst came delay).waits, row (some g) 66 cap' tPk came]
        rw [ht1]
        exact pick3 h selA selA selA
    · rintro - e' -
      have ok4 : (s2.takes1 lst came delay).Ok := takes1_ok ok2 (by rw [hs2.1, hs2.2]; exact hlok) came (by omega)
      generalize s2.takes1 lst came delay = s4 at htk ok4 ⊢
      dsimp only [upds]
      unfold stR
      repeat' (first
        | (
            refine cw_region (id := 0) rfl ?_
            all_goals (refine ow_cons ?_; first | refine kBox (fun bN => ?_) | refine kBoxA (fun bN => ?_))
            all_goals refine wAssign ?_
            all_goals refine wAssign ?_
            all_goals refine wAssign ?_
            all_goals refine ow_nil ?_)
        | (
            refine cw_region (id := 2) rfl ?_
            all_goals refine wAssign ?_
            all_goals refine wAssign ?_
            all_goals refine wAssign ?_
            all_goals refine ow_nil ?_)
        | (
            refine cw_region (id := 4) rfl ?_
            all_goals refine wMove ?_
            all_goals refine wNeq ?_
            all_goals refine ow_nil ?_)
        | (
            refine cw_region (id := 5) rfl ?_
            all_goals refine wMove ?_
            all_goals refine wAssign ?_
            all_goals refine wAssign ?_
            all_goals refine wAssign ?_
            all_goals refine ow_nil ?_)
        | (
            refine cw_region (id := 6) rfl ?_
            all_goals refine wMove ?_
            all_goals refine wMove ?_
            all_goals refine wCheck ?_
            all_goals refine wField ?_
            all_goals (refine ow_cons ?_; first | refine kStore ?_ | refine kStoreA ?_ | refine kStoreR ?_)
            all_goals refine ow_nil ?_)
        | (
            refine cw_region (id := 8) rfl ?_
            all_goals refine wMove ?_
            all_goals refine wLen ?_
            all_goals refine wGtr ?_
            all_goals refine ow_nil ?_)
        | (
            refine cw_region (id := 9) rfl ?_
            all_goals refine wMove ?_
            all_goals refine wMove ?_
            all_goals refine wLen ?_
            all_goals refine wSub ?_
            all_goals (refine ow_cons ?_; first | refine kIndex ?_ | (refine kIdxR (fun g hg => ?_); subst hg) | (refine kIdxO (fun gb go hg => ?_); subst hg))
            all_goals refine wLoad ?_
            all_goals (refine ow_cons ?_; refine st_alloc (fun bN => ?_))
            all_goals (refine ow_cons ?_; first | refine kStore ?_ | refine kStoreA ?_ | refine kStoreR ?_)
            all_goals refine ow_nil ?_)
        | (
            refine cw_draw (id := 10) 7 (by kernel_rfl) (by kernel_rfl) rfl ?_
            all_goals refine hField ?_
            all_goals refine hLoad ?_
            all_goals refine hMove ?_
            all_goals refine hCheck ?_
            all_goals refine hField ?_
            all_goals refine hLoad ?_
            all_goals refine hGeq ?_
            all_goals refine hw_nil ?_
            all_goals refine ow_nil ?_)
        | (
            refine cw_region (id := 11) rfl ?_
            all_goals refine wMove ?_
            all_goals refine wField ?_
            all_goals refine wLoad ?_
            all_goals refine wCheck ?_
            all_goals refine wField ?_
            all_goals (refine ow_cons ?_; first | refine kStore ?_ | refine kStoreA ?_ | refine kStoreR ?_)
            all_goals refine ow_nil ?_)
        | (
            refine cw_region (id := 14) rfl ?_
            all_goals refine wMove ?_
            all_goals refine wLen ?_
            all_goals refine wMove ?_
            all_goals refine ow_nil ?_)
        | (
            refine cw_region (id := 15) rfl ?_
            all_goals refine wLss ?_
            all_goals refine ow_nil ?_)
        | (
            refine cw_region (id := 16) rfl ?_
            all_goals (refine ow_cons ?_; first | refine kIndex ?_ | (refine kIdxR (fun g hg => ?_); subst hg) | (refine kIdxO (fun gb go hg => ?_); subst hg))
            all_goals refine wLoad ?_
            all_goals (refine ow_cons ?_; refine st_alloc (fun bN => ?_))
            all_goals (refine ow_cons ?_; first | refine kStore ?_ | refine kStoreA ?_ | refine kStoreR ?_)
            all_goals refine ow_nil ?_)
        | (
            refine cw_region (id := 18) rfl ?_
            all_goals refine wAdd ?_
            all_goals refine wMove ?_
            all_goals refine ow_nil ?_)
        | (
            refine cw_region (id := 19) rfl ?_
            all_goals refine wMove ?_
            all_goals refine wCheck ?_
            all_goals refine wField ?_
            all_goals (refine ow_cons ?_; first | refine kStore ?_ | refine kStoreA ?_ | refine kStoreR ?_)
            all_goals refine ow_nil ?_)
        | refine cw_seq ?_
        | refine tq_n ?_
        | (refine isCW ?_; first | refine cw_region rfl ?_ | refine cw_skip ?_ | refine cw_ret ?_ | refine cw_exit ?_ | refine cw_block ?_ | refine cTrue ?_ | refine cFalse ?_ | refine cT ?_ | refine cF ?_ | refine cS (fun hc => ?_) (fun hc => ?_) | refine cB (fun hc => ?_) (fun hc => ?_))
        | refine tq_ret ?_ | refine tq_exit ?_ | refine bq_n ?_ | refine bq_ret ?_ | refine bq_same ?_ | refine bq_ne rfl ?_
        | refine ow_cons ?_ | refine ow_nil ?_
        | (refine isOpK ?_; first
          | (refine isG ?_; first | refine opk_yes rfl rfl ?_ | refine opk_no rfl rfl ?_ | refine opk_no_undef rfl rfl ?_ | refine opk_g_t rfl rfl (by omega) ?_ | refine opk_g_f rfl rfl (by omega) ?_ | refine opk_g_s rfl rfl (fun hc => ?_) (fun hc => ?_) | refine opk_g_b rfl rfl (fun hc => ?_) (fun hc => ?_))
          | refine kRd ?_
          | refine kStore ?_
          | refine kStoreA ?_
          | refine kStoreR ?_
          | (refine kIdxR (fun g hg => ?_); subst hg)
          | (refine kIdxO (fun gb go hg => ?_); subst hg)
          | refine st_alloc (fun bN => ?_)
          | refine kBox (fun bN => ?_)
          | refine kBoxA (fun bN => ?_)
          | (refine st_buildSlice rfl rfl rfl rfl (fun bN => ?_))
          | (refine st_clearR rfl selA rfl (by omega) rfl rfl rfl ?_)
          | (refine st_clearR rfl selA (by omega) (by omega) rfl rfl rfl ?_))
        | refine hw_cons ?_ | refine hw_nil ?_
        | (refine isOpS ?_; first
          | (refine os_isG ?_; first | refine os_yes rfl rfl ?_ | refine os_no rfl rfl ?_ | refine os_no_undef rfl rfl ?_ | refine os_g_t rfl rfl (by omega) ?_ | refine os_g_f rfl rfl (by omega) ?_ | refine os_g_s rfl rfl (fun hc => ?_) (fun hc => ?_) | refine os_g_b rfl rfl (fun hc => ?_) (fun hc => ?_))
          | refine sRd ?_))
      refine cw_rounds (S := fun i : Nat => [(0, ptr b), (3, i6 t), (12, .slice (oad (some g)) came.length cap'), (71, .slice (oad (some g)) came.length cap'), (72, .int .i64 (came.length : Nat)), (73, .int .i64 (i : Nat))]) (H := fun i => [blk b 63 (encS ((came.take i).foldl St.grow s4) a cap), row a 66 cap tPk s4.waits, row (some g) 66 cap' tPk came])
        (V := fun i => i ≤ came.length) (μ := fun i => came.length - i) 0 ⟨rfl, rfl, rfl, rfl, rfl, rfl, trivial⟩ (by omega) (fun _ h => pick3 h selA selA selA) ?_
      rintro i e' hi
      dsimp only [upds]
      rcases Nat.lt_or_ge i came.length with hlt | hge
      · obtain ⟨q, hqi⟩ : ∃ q, came[i]? = some q := ⟨_, List.getElem?_eq_getElem hlt⟩
        have okg := foldl_ok (came.take i) ok4 fun x hx => (hcm x (List.mem_of_mem_take hx)).size
        have hgw := okg.window
        have hst4 : (came.take (i + 1)).foldl St.grow s4 = ((came.take i).foldl St.grow s4).grow q := by rw [take_snoc hqi, List.foldl_append]; rfl
        have hqs := (hcm q (List.mem_of_getElem? hqi)).size
        generalize (came.take i).foldl St.grow s4 = s6 at okg hgw hst4 ⊢
        repeat' (first
          | (
              refine cw_region (id := 0) rfl ?_
              all_goals (refine ow_cons ?_; first | refine kBox (fun bN => ?_) | refine kBoxA (fun bN => ?_))
              all_goals refine wAssign ?_
              all_goals refine wAssign ?_
              all_goals refine wAssign ?_
              all_goals refine ow_nil ?_)
          | (
              refine cw_region (id := 2) rfl ?_
              all_goals refine wAssign ?_
              all_goals refine wAssign ?_
              all_goals refine wAssign ?_
              all_goals refine ow_nil ?_)
          | (
              refine cw_region (id := 4) rfl ?_
              all_goals refine wMove ?_
              all_goals refine wNeq ?_
              all_goals refine ow_nil ?_)
          | (
              refine cw_region (id := 5) rfl ?_
              all_goals refine wMove ?_
              all_goals refine wAssign ?_
              all_goals refine wAssign ?_
              all_goals refine wAssign ?_
              all_goals refine ow_nil ?_)
          | (
              refine cw_region (id := 6) rfl ?_
              all_goals refine wMove ?_
              all_goals refine wMove ?_
              all_goals refine wCheck ?_
              all_goals refine wField ?_
              all_goals (refine ow_cons ?_; first | refine kStore ?_ | refine kStoreA ?_ | refine kStoreR ?_)
              all_goals refine ow_nil ?_)
          | (
              refine cw_region (id := 8) rfl ?_
              all_goals refine wMove ?_
              all_goals refine wLen ?_
              all_goals refine wGtr ?_
              all_goals refine ow_nil ?_)
          | (
              refine cw_region (id := 9) rfl ?_
              all_goals refine wMove ?_
              all_goals refine wMove ?_
              all_goals refine wLen ?_
              all_goals refine wSub ?_
              all_goals (refine ow_cons ?_; first | refine kIndex ?_ | (refine kIdxR (fun g hg => ?_); subst hg) | (refine kIdxO (fun gb go hg => ?_); subst hg))
              all_goals refine wLoad ?_
              all_goals (refine ow_cons ?_; refine st_alloc (fun bN => ?_))
              all_goals (refine ow_cons ?_; first | refine kStore ?_ | refine kStoreA ?_ | refine kStoreR ?_)
              all_goals refine ow_nil ?_)
          | (
              refine cw_draw (id := 10) 7 (by kernel_rfl) (by kernel_rfl) rfl ?_
              all_goals refine hField ?_
              all_goals refine hLoad ?_
              all_goals refine hMove ?_
              all_goals refine hCheck ?_
              all_goals refine hField ?_
              all_goals refine hLoad ?_
              all_goals refine hGeq ?_
              all_goals refine hw_nil ?_
              all_goals refine ow_nil ?_)
          | (
              refine cw_region (id := 11) rfl ?_
              all_goals refine wMove ?_
              all_goals refine wField ?_
              all_goals refine wLoad ?_
              all_goals refine wCheck ?_
              all_goals refine wField ?_
              all_goals (refine ow_cons ?_; first | refine kStore ?_ | refine kStoreA ?_ | refine kStoreR ?_)
              all_goals refine ow_nil ?_)
          | (
              refine cw_region (id := 14) rfl ?_
              all_goals refine wMove ?_
              all_goals refine wLen ?_
              all_goals refine wMove ?_
              all_goals refine ow_nil ?_)
          | (
              refine cw_region (id := 15) rfl ?_
              all_goals refine wLss ?_
              all_goals refine ow_nil ?_)
          | (
              refine cw_region (id := 16) rfl ?_
              all_goals (refine ow_cons ?_; first | refine kIndex ?_ | (refine kIdxR (fun g hg => ?_); subst hg) | (refine kIdxO (fun gb go hg => ?_); subst hg))
              all_goals refine wLoad ?_
              all_goals (refine ow_cons ?_; refine st_alloc (fun bN => ?_))
              all_goals (refine ow_cons ?_; first | refine kStore ?_ | refine kStoreA ?_ | refine kStoreR ?_)
              all_goals refine ow_nil ?_)
          | (
              refine cw_region (id := 17) rfl ?_
              all_goals refine wMove ?_
              all_goals refine wLoad ?_
              all_goals (refine ow_cons ?_; (refine st_call (av := [_, _]) rfl (grow_spec b s6 a cap q (by omega) hqs) (.cons selA (.nil _)) ?_; rintro v L' rfl))
              all_goals refine ow_nil ?_)
          | (
              refine cw_region (id := 18) rfl ?_
              all_goals refine wAdd ?_
              all_goals refine wMove ?_
              all_goals refine ow_nil ?_)
          | (
              refine cw_region (id := 19) rfl ?_
              all_goals refine wMove ?_
              all_goals refine wCheck ?_
              all_goals refine wField ?_
              all_goals (refine ow_cons ?_; first | refine kStore ?_ | refine kStoreA ?_ | refine kStoreR ?_)
              all_goals refine ow_nil ?_)
          | refine cw_seq ?_
          | refine tq_n ?_
          | (refine isCW ?_; first | refine cw_region rfl ?_ | refine cw_skip ?_ | refine cw_ret ?_ | refine cw_exit ?_ | refine cw_block ?_ | refine cTrue ?_ | refine cFalse ?_ | refine cT ?_ | refine cF ?_ | refine cS (fun hc => ?_) (fun hc => ?_) | refine cB (fun hc => ?_) (fun hc => ?_))
          | refine tq_ret ?_ | refine tq_exit ?_ | refine bq_n ?_ | refine bq_ret ?_ | refine bq_same ?_ | refine bq_ne rfl ?_
          | refine ow_cons ?_ | refine ow_nil ?_
          | (refine isOpK ?_; first
            | (refine isG ?_; first | refine opk_yes rfl rfl ?_ | refine opk_no rfl rfl ?_ | refine opk_no_undef rfl rfl ?_ | refine opk_g_t rfl rfl (by omega) ?_ | refine opk_g_f rfl rfl (by omega) ?_ | refine opk_g_s rfl rfl (fun hc => ?_) (fun hc => ?_) | refine opk_g_b rfl rfl (fun hc => ?_) (fun hc => ?_))
            | refine kRd ?_
            | refine kStore ?_
            | refine kStoreA ?_
            | refine kStoreR ?_
            | (refine kIdxR (fun g hg => ?_); subst hg)
            | (refine kIdxO (fun gb go hg => ?_); subst hg)
            | refine st_alloc (fun bN => ?_)
            | refine kBox (fun bN => ?_)
            | refine kBoxA (fun bN => ?_)
            | (refine st_buildSlice rfl rfl rfl rfl (fun bN => ?_))
            | (refine st_clearR rfl selA rfl (by omega) rfl rfl rfl ?_)
            | (refine st_clearR rfl selA (by omega) (by omega) rfl rfl rfl ?_)
            | (refine st_call (av := [_, _]) rfl (grow_spec b s6 a cap q (by omega) hqs) (.cons selA (.nil _)) ?_; rintro v L' rfl))
          | refine hw_cons ?_ | refine hw_nil ?_
          | (refine isOpS ?_; first
            | (refine os_isG ?_; first | refine os_yes rfl rfl ?_ | refine os_no rfl rfl ?_ | refine os_no_undef rfl rfl ?_ | refine os_g_t rfl rfl (by omega) ?_ | refine os_g_f rfl rfl (by omega) ?_ | refine os_g_s rfl rfl (fun hc => ?_) (fun hc => ?_) | refine os_g_b rfl rfl (fun hc => ?_) (fun hc => ?_))
            | refine sRd ?_))
        refine lp_end (i + 1) ⟨rfl, rfl, rfl, rfl, rfl, rfl, trivial⟩ (by omega) (by omega) (fun w h => ?_)
        rw [hst4]
        exact pick3 h selA selA selA
      · have hie : i = came.length := by omega
        subst hie
        rw [List.take_length]
        repeat' (first
          | (
              refine cw_region (id := 0) rfl ?_
              all_goals (refine ow_cons ?_; first | refine kBox (fun bN => ?_) | refine kBoxA (fun bN => ?_))
              all_goals refine wAssign ?_
              all_goals refine wAssign ?_
              all_goals refine wAssign ?_
              all_goals refine ow_nil ?_)
          | (
              refine cw_region (id := 2) rfl ?_
              all_goals refine wAssign ?_
              all_goals refine wAssign ?_
              all_goals refine wAssign ?_
              all_goals refine ow_nil ?_)
          | (
              refine cw_region (id := 4) rfl ?_
              all_goals refine wMove ?_
              all_goals refine wNeq ?_
              all_goals refine ow_nil ?_)
          | (
              refine cw_region (id := 5) rfl ?_
              all_goals refine wMove ?_
              all_goals refine wAssign ?_
              all_goals refine wAssign ?_
              all_goals refine wAssign ?_
              all_goals refine ow_nil ?_)
          | (
              refine cw_region (id := 6) rfl ?_
              all_goals refine wMove ?_
              all_goals refine wMove ?_
              all_goals refine wCheck ?_
              all_goals refine wField ?_
              all_goals (refine ow_cons ?_; first | refine kStore ?_ | refine kStoreA ?_ | refine kStoreR ?_)
              all_goals refine ow_nil ?_)
          | (
              refine cw_region (id := 8) rfl ?_
              all_goals refine wMove ?_
              all_goals refine wLen ?_
              all_goals refine wGtr ?_
              all_goals refine ow_nil ?_)
          | (
              refine cw_region (id := 9) rfl ?_
              all_goals refine wMove ?_
              all_goals refine wMove ?_
              all_goals refine wLen ?_
              all_goals refine wSub ?_
              all_goals (refine ow_cons ?_; first | refine kIndex ?_ | (refine kIdxR (fun g hg => ?_); subst hg) | (refine kIdxO (fun gb go hg => ?_); subst hg))
              all_goals refine wLoad ?_
              all_goals (refine ow_cons ?_; refine st_alloc (fun bN => ?_))
              all_goals (refine ow_cons ?_; first | refine kStore ?_ | refine kStoreA ?_ | refine kStoreR ?_)
              all_goals refine ow_nil ?_)
          | (
              refine cw_draw (id := 10) 7 (by kernel_rfl) (by kernel_rfl) rfl ?_
              all_goals refine hField ?_
              all_goals refine hLoad ?_
              all_goals refine hMove ?_
              all_goals refine hCheck ?_
              all_goals refine hField ?_
              all_goals refine hLoad ?_
              all_goals refine hGeq ?_
              all_goals refine hw_nil ?_
              all_goals refine ow_nil ?_)
          | (
              refine cw_region (id := 11) rfl ?_
              all_goals refine wMove ?_
              all_goals refine wField ?_
              all_goals refine wLoad ?_
              all_goals refine wCheck ?_
              all_goals refine wField ?_
              all_goals (refine ow_cons ?_; first | refine kStore ?_ | refine kStoreA ?_ | refine kStoreR ?_)
              all_goals refine ow_nil ?_)
          | (
              refine cw_region (id := 14) rfl ?_
              all_goals refine wMove ?_
              all_goals refine wLen ?_
              all_goals refine wMove ?_
              all_goals refine ow_nil ?_)
          | (
              refine cw_region (id := 15) rfl ?_
              all_goals refine wLss ?_
              all_goals refine ow_nil ?_)
          | (
              refine cw_region (id := 16) rfl ?_
              all_goals (refine ow_cons ?_; first | refine kIndex ?_ | (refine kIdxR (fun g hg => ?_); subst hg) | (refine kIdxO (fun gb go hg => ?_); subst hg))
              all_goals refine wLoad ?_
              all_goals (refine ow_cons ?_; refine st_alloc (fun bN => ?_))
              all_goals (refine ow_cons ?_; first | refine kStore ?_ | refine kStoreA ?_ | refine kStoreR ?_)
              all_goals refine ow_nil ?_)
          | (
              refine cw_region (id := 18) rfl ?_
              all_goals refine wAdd ?_
              all_goals refine wMove ?_
              all_goals refine ow_nil ?_)
          | (
              refine cw_region (id := 19) rfl ?_
              all_goals refine wMove ?_
              all_goals refine wCheck ?_
              all_goals refine wField ?_
              all_goals (refine ow_cons ?_; first | refine kStore ?_ | refine kStoreA ?_ | refine kStoreR ?_)
              all_goals refine ow_nil ?_)
          | refine cw_seq ?_
          | refine tq_n ?_
          | (refine isCW ?_; first | refine cw_region rfl ?_ | refine cw_skip ?_ | refine cw_ret ?_ | refine cw_exit ?_ | refine cw_block ?_ | refine cTrue ?_ | refine cFalse ?_ | refine cT ?_ | refine cF ?_ | refine cS (fun hc => ?_) (fun hc => ?_) | refine cB (fun hc => ?_) (fun hc => ?_))
          | refine tq_ret ?_ | refine tq_exit ?_ | refine bq_n ?_ | refine bq_ret ?_ | refine bq_same ?_ | refine bq_ne rfl ?_
          | refine ow_cons ?_ | refine ow_nil ?_
          | (refine isOpK ?_; first
            | (refine isG ?_; first | refine opk_yes rfl rfl ?_ | refine opk_no rfl rfl ?_ | refine opk_no_undef rfl rfl ?_ | refine opk_g_t rfl rfl (by omega) ?_ | refine opk_g_f rfl rfl (by omega) ?_ | refine opk_g_s rfl rfl (fun hc => ?_) (fun hc => ?_) | refine opk_g_b rfl rfl (fun hc => ?_) (fun hc => ?_))
            | refine kRd ?_
            | refine kStore ?_
            | refine kStoreA ?_
            | refine kStoreR ?_
            | (refine kIdxR (fun g hg => ?_); subst hg)
            | (refine kIdxO (fun gb go hg => ?_); subst hg)
            | refine st_alloc (fun bN => ?_)
            | refine kBox (fun bN => ?_)
            | refine kBoxA (fun bN => ?_)
            | (refine st_buildSlice rfl rfl rfl rfl (fun bN => ?_))
            | (refine st_clearR rfl selA rfl (by omega) rfl rfl rfl ?_)
            | (refine st_clearR rfl selA (by omega) (by omega) rfl rfl rfl ?_))
          | refine hw_cons ?_ | refine hw_nil ?_
          | (refine isOpS ?_; first
            | (refine os_isG ?_; first | refine os_yes rfl rfl ?_ | refine os_no rfl rfl ?_ | refine os_no_undef rfl rfl ?_ | refine os_g_t rfl rfl (by omega) ?_ | refine os_g_f rfl rfl (by omega) ?_ | refine os_g_s rfl rfl (fun hc => ?_) (fun hc => ?_) | refine os_g_b rfl rfl (fun hc => ?_) (fun hc => ?_))
            | refine sRd ?_))
        refine nm_end () ⟨rfl, rfl, rfl, trivial⟩ trivial (fun w h => ?_)
        have hwv : (s2.takes came delay).waits = s4.waits := by rw [htk]; exact foldl_waits came s4
        show Tr _ _ w [blk b 63 (encS (s2.takes came delay) a cap), row a 66 cap tPk (s2.takes came delay).waits, ro (oad (some g)) tPk came]
        have h := tr_row_ro (a := some g) (T := 66) (cap := cap') (τ := tPk) (xs := came) selA h
        have he : encS (s2.takes came delay) a cap = (encS (came.foldl St.grow s4) a cap).set 12 (i6 0) := by rw [htk]; rfl
        rw [hwv, he]
        exact pick3 h selA selA selA
end Go.Proofs.Ytomaldjedncjoaa.E
