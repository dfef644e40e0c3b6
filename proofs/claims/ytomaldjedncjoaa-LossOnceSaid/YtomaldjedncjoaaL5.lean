/-
The layer 'loss': the timer.
Conditions: each is said with its statement.
-/
import Derived.Test.YtomaldjedncjoaaL4
set_option linter.unusedVariables false
namespace Go.Proofs.Ytomaldjedncjoaa.E
open Go
set_option maxRecDepth 100000
set_option maxHeartbeats 4000000
theorem iter53r (c : Nat) (a : Option Nat) (cap : Nat) (xs : List Pk) (hx : xs.length ≤ 1099511627780) : Iter Go.Proofs.Try.prog 53 [ptr c] [blk c 61 [.slice (oad a) xs.length cap], row a 66 cap tPk xs] (back xs) := by
  intro y I Ex hY L hI
  refine spec_of (args := [y, ptr c]) Go.Proofs.Try.func53 rfl rfl fun w0 hw0 => ?_
  repeat' (first
    | (
        refine cw_region (id := 0) rfl ?_
        all_goals refine wLoad ?_
        all_goals refine wLen ?_
        all_goals refine wSub ?_
        all_goals refine wAssign ?_
        all_goals refine ow_nil ?_)
    | (
        refine cw_region (id := 1) rfl ?_
        all_goals refine wMove ?_
        all_goals refine wGeq ?_
        all_goals refine ow_nil ?_)
    | (
        refine cw_region (id := 2) rfl ?_
        all_goals refine wMove ?_
        all_goals refine wSub ?_
        all_goals refine wAssign ?_
        all_goals refine ow_nil ?_)
    | refine cw_seq ?_
    | refine tq_n ?_
    | (refine isCW ?_; first | refine cw_region rfl ?_ | refine cw_skip ?_ | refine cw_ret ?_ | refine cw_exit ?_ | refine cw_block ?_ | refine cTrue ?_ | refine cFalse ?_ | refine cT ?_ | refine cF ?_ | refine cS (fun hc => ?_) (fun hc => ?_) | refine cB (fun hc => ?_) (fun hc => ?_))
    | refine tq_ret ?_ | refine tq_exit ?_ | refine bq_n ?_ | refine bq_ret ?_ | refine bq_same ?_ | refine bq_ne rfl ?_
    | refine ow_cons ?_ | refine ow_nil ?_
    | (refine isOpK ?_; first
      | (refine isG ?_; first | refine opk_yes rfl rfl ?_ | refine opk_no rfl rfl ?_ | refine opk_no_undef rfl rfl ?_ | refine opk_g_t rfl rfl (by omega) ?_ | refine opk_g_f rfl rfl (by omega) ?_ | refine opk_g_s rfl rfl (fun hc => ?_) (fun hc => ?_) | refine opk_g_b rfl rfl (fun hc => ?_) (fun hc => ?_))
      | refine kRd ?_
      | refine kStore ?_
      | refine kStoreA ?_
      | refine kStoreR ?_
      | (refine kIdxR (fun g hg => ?_); subst hg)
      | (refine kIdxO (fun gb go hg => ?_); subst hg)
      | refine st_alloc (fun bN => ?_)
      | refine kBox (fun bN => ?_)
      | refine kBoxA (fun bN => ?_)
      | (refine st_buildSlice rfl rfl rfl rfl (fun bN => ?_))
      | (refine st_clearR rfl selA rfl (by omega) rfl rfl rfl ?_)
      | (refine st_clearR rfl selA (by omega) (by omega) rfl rfl rfl ?_))
    | refine hw_cons ?_ | refine hw_nil ?_
    | (refine isOpS ?_; first
      | (refine os_isG ?_; first | refine os_yes rfl rfl ?_ | refine os_no rfl rfl ?_ | refine os_no_undef rfl rfl ?_ | refine os_g_t rfl rfl (by omega) ?_ | refine os_g_f rfl rfl (by omega) ?_ | refine os_g_s rfl rfl (fun hc => ?_) (fun hc => ?_) | refine os_g_b rfl rfl (fun hc => ?_) (fun hc => ?_))
      | refine sRd ?_))
  refine cw_rounds (S := fun s : Nat × Heap => [(0, y), (1, ptr c), (3, .int .i64 ((s.1 : Int) - 1))]) (H := fun s => s.2 ++ [blk c 61 [.slice (oad a) xs.length cap], row a 66 cap tPk xs])
    (V := fun s => s.1 ≤ xs.length ∧ I (xs.length - s.1) s.2) (μ := fun s => s.1) (xs.length, L) ⟨rfl, rfl, rfl, trivial⟩ ⟨Nat.le_refl _, by rw [Nat.sub_self]; exact hI⟩ (fun _ h => h) ?_
  rintro ⟨j, L1⟩ e' ⟨hj, hI⟩
  simp only at hj hI
  cases j with
  | zero =>
    dsimp only [upds]
    repeat' (first
      | (
          refine cw_region (id := 0) rfl ?_
          all_goals refine wLoad ?_
          all_goals refine wLen ?_
          all_goals refine wSub ?_
          all_goals refine wAssign ?_
          all_goals refine ow_nil ?_)
      | (
          refine cw_region (id := 1) rfl ?_
          all_goals refine wMove ?_
          all_goals refine wGeq ?_
          all_goals refine ow_nil ?_)
      | (
          refine cw_region (id := 2) rfl ?_
          all_goals refine wMove ?_
          all_goals refine wSub ?_
          all_goals refine wAssign ?_
          all_goals refine ow_nil ?_)
      | refine cw_seq ?_
      | refine tq_n ?_
      | (refine isCW ?_; first | refine cw_region rfl ?_ | refine cw_skip ?_ | refine cw_ret ?_ | refine cw_exit ?_ | refine cw_block ?_ | refine cTrue ?_ | refine cFalse ?_ | refine cT ?_ | refine cF ?_ | refine cS (fun hc => ?_) (fun hc => ?_) | refine cB (fun hc => ?_) (fun hc => ?_))
      | refine tq_ret ?_ | refine tq_exit ?_ | refine bq_n ?_ | refine bq_ret ?_ | refine bq_same ?_ | refine bq_ne rfl ?_
      | refine ow_cons ?_ | refine ow_nil ?_
      | (refine isOpK ?_; first
        | (refine isG ?_; first | refine opk_yes rfl rfl ?_ | refine opk_no rfl rfl ?_ | refine opk_no_undef rfl rfl ?_ | refine opk_g_t rfl rfl (by omega) ?_ | refine opk_g_f rfl rfl (by omega) ?_ | refine opk_g_s rfl rfl (fun hc => ?_) (fun hc => ?_) | refine opk_g_b rfl rfl (fun hc => ?_) (fun hc => ?_))
        | refine kRd ?_
        | refine kStore ?_
        | refine kStoreA ?_
        | refine kStoreR ?_
        | (refine kIdxR (fun g hg => ?_); subst hg)
        | (refine kIdxO (fun gb go hg => ?_); subst hg)
        | refine st_alloc (fun bN => ?_)
        | refine kBox (fun bN => ?_)
        | refine kBoxA (fun bN => ?_)
        | (refine st_buildSlice rfl rfl rfl rfl (fun bN => ?_))
        | (refine st_clearR rfl selA rfl (by omega) rfl rfl rfl ?_)
        | (refine st_clearR rfl selA (by omega) (by omega) rfl rfl rfl ?_))
      | refine hw_cons ?_ | refine hw_nil ?_
      | (refine isOpS ?_; first
        | (refine os_isG ?_; first | refine os_yes rfl rfl ?_ | refine os_no rfl rfl ?_ | refine os_no_undef rfl rfl ?_ | refine os_g_t rfl rfl (by omega) ?_ | refine os_g_f rfl rfl (by omega) ?_ | refine os_g_s rfl rfl (fun hc => ?_) (fun hc => ?_) | refine os_g_b rfl rfl (fun hc => ?_) (fun hc => ?_))
        | refine sRd ?_))
    exact retQ_end (retV_tmps [] rfl rfl) ⟨L1, rfl, .inl (by rw [back_length]; exact hI)⟩ (fun _ _ h => h)
  | succ j =>
    have hjj : ((j + 1 : Nat) : Int) - 1 = (j : Int) := by omega
    obtain ⟨x, hxj⟩ : ∃ x, xs[j]? = some x := ⟨_, List.getElem?_eq_getElem (by omega)⟩
    have hk : (back xs)[xs.length - (j + 1)]? = some [i6 (j : Int), .agg (encPk x).toArray] := by
      have := back_get hxj
      rwa [show xs.length - 1 - j = xs.length - (j + 1) by omega] at this
    have hkl : xs.length - (j + 1) < (back xs).length := (List.getElem?_eq_some_iff.1 hk).1
    have hk1 : xs.length - (j + 1) + 1 = xs.length - j := by omega
    dsimp only [upds]
    simp only [hjj]
    repeat' (first
      | (
          refine cw_region (id := 0) rfl ?_
          all_goals refine wLoad ?_
          all_goals refine wLen ?_
          all_goals refine wSub ?_
          all_goals refine wAssign ?_
          all_goals refine ow_nil ?_)
      | (
          refine cw_region (id := 1) rfl ?_
          all_goals refine wMove ?_
          all_goals refine wGeq ?_
          all_goals refine ow_nil ?_)
      | (
          refine cw_region (id := 3) rfl ?_
          all_goals refine wMove ?_
          all_goals refine wMove ?_
          all_goals refine wLoad ?_
          all_goals refine wMove ?_
          all_goals (refine ow_cons ?_; first | refine kIndex ?_ | (refine kIdxR (fun g hg => ?_); subst hg) | (refine kIdxO (fun gb go hg => ?_); subst hg))
          all_goals refine wLoad ?_
          all_goals (refine ow_cons ?_; (refine st_callY (av := [_, _]) rfl rfl (hY _ _ L1 hk hI) (selL_all _) ?_; rintro v L' ⟨L2, rfl, ⟨rfl, hI2⟩ | ⟨rfl, hE⟩⟩))
          all_goals refine wNot ?_
          all_goals refine ow_nil ?_)
      | (
          refine cw_region (id := 2) rfl ?_
          all_goals refine wMove ?_
          all_goals refine wSub ?_
          all_goals refine wAssign ?_
          all_goals refine ow_nil ?_)
      | refine cw_seq ?_
      | refine tq_n ?_
      | refine cw_skip ?_ | refine cw_ret ?_ | refine cw_exit ?_ | refine cw_block ?_ | refine cTrue ?_ | refine cFalse ?_ | refine cT ?_ | refine cF ?_ | refine cS (fun hc => ?_) (fun hc => ?_) | refine cB (fun hc => ?_) (fun hc => ?_)
      | refine tq_ret ?_ | refine tq_exit ?_ | refine bq_n ?_ | refine bq_ret ?_ | refine bq_same ?_ | refine bq_ne rfl ?_)
    · exact lp_end (j, L2) ⟨rfl, rfl, rfl, trivial⟩ ⟨by simp only; omega, hk1 ▸ hI2⟩ (by simp only; omega) (fun _ h => h)
    · exact retQ_ret (retV_tmps [] rfl rfl) ⟨L2, rfl, .inr ⟨_, hkl, hE⟩⟩ (fun _ _ h => h)
theorem find_at {l : List Pk} {k : Nat} {q : Pk} (hq : l[k]? = some q) (ha : q.asks = true) (hn : ∀ (j : Nat) (x : Pk), j < k → l[j]? = some x → x.asks = false) : l.find? (·.asks) = some q := by
  rw [List.find?_eq_some_iff_getElem]
  obtain ⟨hk, hx⟩ := List.getElem?_eq_some_iff.1 hq
  exact ⟨ha, k, hk, hx, fun j hj => by have := hn j l[j] hj (List.getElem?_eq_getElem (by omega)); simpa using this⟩
theorem find_no {l : List Pk} (hn : ∀ (j : Nat) (x : Pk), l[j]? = some x → x.asks = false) : l.find? (·.asks) = none := by
  rw [List.find?_eq_none]
  intro x hx
  obtain ⟨j, hj⟩ := List.mem_iff_getElem?.1 hx
  simp [hn j x hj]
def St.rto (s : St) : Int := (s.smooth + max (4 * s.vary) 1 + 25) * 2 ^ s.tries.toNat
theorem rto_shl {s : St} (h0 : 0 ≤ s.smooth ∧ s.smooth ≤ 1099511627776) (h1 : 0 ≤ s.vary ∧ s.vary ≤ 1099511627776) (h2 : 0 ≤ s.tries ∧ s.tries ≤ 5) :
    (IntKind.i64.wrap ((s.smooth + max (4 * s.vary) 1 + 25) * 2 ^ (min s.tries.toNat IntKind.i64.bits)) = s.rto) ∧ 0 ≤ s.rto ∧ s.rto ≤ 1125899906842624 := by
  have hb : IntKind.i64.bits = 64 := rfl
  have hm : min s.tries.toNat IntKind.i64.bits = s.tries.toNat := by rw [hb]; omega
  rw [hm]
  have hr : s.rto = (s.smooth + max (4 * s.vary) 1 + 25) * 2 ^ s.tries.toNat := rfl
  have hc : s.tries.toNat = 0 ∨ s.tries.toNat = 1 ∨ s.tries.toNat = 2 ∨ s.tries.toNat = 3 ∨ s.tries.toNat = 4 ∨ s.tries.toNat = 5 := by omega
  rcases hc with h | h | h | h | h | h <;> rw [hr, h] <;> refine ⟨wrap64 (by omega) (by omega), by omega, by omega⟩
def St.timer (s : St) : Int × Bool × Bool :=
  match s.waits with
  | [] => (0, false, false)
  | q :: _ => if q.number < s.best then (q.at_ + s.wait, true, true) else
    match s.waits.reverse.find? (·.asks) with
    | some p => (p.at_ + s.rto, true, false)
    | none => (0, false, false)
def tmV (x : Int × Bool × Bool) : Value := .tuple #[i6 x.1, .bool x.2.1, .bool x.2.2]
theorem timer39 (b : Nat) (s : St) (a : Option Nat) (cap : Nat) (h0 : 0 ≤ s.smooth ∧ s.smooth ≤ 1099511627776) (h1 : 0 ≤ s.vary ∧ s.vary ≤ 1099511627776) (h2 : 0 ≤ s.tries ∧ s.tries ≤ 5) (hla : 0 ≤ s.last ∧ s.last ≤ 1099511627776)
    (hl : s.waits.length ≤ 1099511627779) (hq : ∀ q ∈ s.waits, 0 ≤ q.at_ ∧ q.at_ ≤ 1099511627776) :
    Spec Go.Proofs.Try.prog 39 #[ptr b] (stR b s a cap) (fun v L => v = tmV s.timer ∧ L = stR b s a cap) := by
  refine spec_ofM (args := [ptr b]) Go.Proofs.Try.func39 rfl rfl fun w0 hw0 => ?_
  obtain ⟨hsh, hr1, hr2⟩ := rto_shl h0 h1 h2
  have hwt : 1 ≤ s.wait ∧ s.wait ≤ 1236950581248 := by unfold St.wait; omega
  unfold stR
  cases hws : s.waits with
  | nil =>
    rw [← hws]
    have hlen : s.waits.length = 0 := by rw [hws]; rfl
    repeat' (first
      | (
          refine cw_region (id := 0) rfl ?_
          all_goals (refine ow_cons ?_; first | refine kBox (fun bN => ?_) | refine kBoxA (fun bN => ?_))
          all_goals (refine ow_cons ?_; refine st_alloc (fun bN => ?_))
          all_goals (refine ow_cons ?_; refine st_alloc (fun bN => ?_))
          all_goals (refine ow_cons ?_; refine st_alloc (fun bN => ?_))
          all_goals refine ow_nil ?_)
      | (
          refine cw_region (id := 1) rfl ?_
          all_goals refine wLoad ?_
          all_goals refine wEql ?_
          all_goals refine wMove ?_
          all_goals (refine ow_cons ?_; first | refine gNo ?_ | refine gUn ?_ | (refine gYes ?_; refine kLoad ?_) | (refine gTf ?_; refine kLoad ?_) | refine gFf ?_ | (refine gSf (fun hc => ?_) (fun hc => ?_); rotate_left; (focus (refine kLoad ?_)); rotate_right) | (refine gBf (fun hc => ?_) (fun hc => ?_); rotate_left; (focus (refine kLoad ?_)); rotate_right))
          all_goals (refine ow_cons ?_; first | refine gNo ?_ | refine gUn ?_ | (refine gYes ?_; refine kCheck ?_) | (refine gTf ?_; refine kCheck ?_) | refine gFf ?_ | (refine gSf (fun hc => ?_) (fun hc => ?_); rotate_left; (focus (refine kCheck ?_)); rotate_right) | (refine gBf (fun hc => ?_) (fun hc => ?_); rotate_left; (focus (refine kCheck ?_)); rotate_right))
          all_goals (refine ow_cons ?_; first | refine gNo ?_ | refine gUn ?_ | (refine gYes ?_; refine kField ?_) | (refine gTf ?_; refine kField ?_) | refine gFf ?_ | (refine gSf (fun hc => ?_) (fun hc => ?_); rotate_left; (focus (refine kField ?_)); rotate_right) | (refine gBf (fun hc => ?_) (fun hc => ?_); rotate_left; (focus (refine kField ?_)); rotate_right))
          all_goals (refine ow_cons ?_; first | refine gNo ?_ | refine gUn ?_ | (refine gYes ?_; refine kLoad ?_) | (refine gTf ?_; refine kLoad ?_) | refine gFf ?_ | (refine gSf (fun hc => ?_) (fun hc => ?_); rotate_left; (focus (refine kLoad ?_)); rotate_right) | (refine gBf (fun hc => ?_) (fun hc => ?_); rotate_left; (focus (refine kLoad ?_)); rotate_right))
          all_goals (refine ow_cons ?_; first | refine gNo ?_ | refine gUn ?_ | (refine gYes ?_; refine kLen ?_) | (refine gTf ?_; refine kLen ?_) | refine gFf ?_ | (refine gSf (fun hc => ?_) (fun hc => ?_); rotate_left; (focus (refine kLen ?_)); rotate_right) | (refine gBf (fun hc => ?_) (fun hc => ?_); rotate_left; (focus (refine kLen ?_)); rotate_right))
          all_goals (refine ow_cons ?_; first | refine gNo ?_ | refine gUn ?_ | (refine gYes ?_; refine kEql ?_) | (refine gTf ?_; refine kEql ?_) | refine gFf ?_ | (refine gSf (fun hc => ?_) (fun hc => ?_); rotate_left; (focus (refine kEql ?_)); rotate_right) | (refine gBf (fun hc => ?_) (fun hc => ?_); rotate_left; (focus (refine kEql ?_)); rotate_right))
          all_goals refine wPick ?_
          all_goals refine ow_nil ?_)
      | (
          refine cw_region (id := 2) rfl ?_
          all_goals (refine ow_cons ?_; first | refine kStore ?_ | refine kStoreA ?_ | refine kStoreR ?_)
          all_goals (refine ow_cons ?_; first | refine kStore ?_ | refine kStoreA ?_ | refine kStoreR ?_)
          all_goals (refine ow_cons ?_; first | refine kStore ?_ | refine kStoreA ?_ | refine kStoreR ?_)
          all_goals refine ow_nil ?_)
      | (
          refine cw_region (id := 3) rfl ?_
          all_goals refine wLoad ?_
          all_goals refine wCheck ?_
          all_goals refine wField ?_
          all_goals refine wLoad ?_
          all_goals (refine ow_cons ?_; first | refine kIndex ?_ | (refine kIdxR (fun g hg => ?_); subst hg) | (refine kIdxO (fun gb go hg => ?_); subst hg))
          all_goals refine wLoad ?_
          all_goals (refine ow_cons ?_; refine st_alloc (fun bN => ?_))
          all_goals (refine ow_cons ?_; first | refine kStore ?_ | refine kStoreA ?_ | refine kStoreR ?_)
          all_goals refine ow_nil ?_)
      | (
          refine cw_draw (id := 4) 7 (by kernel_rfl) (by kernel_rfl) rfl ?_
          all_goals refine hField ?_
          all_goals refine hLoad ?_
          all_goals refine hLoad ?_
          all_goals refine hCheck ?_
          all_goals refine hField ?_
          all_goals refine hLoad ?_
          all_goals refine hLss ?_
          all_goals refine hw_nil ?_
          all_goals refine ow_nil ?_)
      | (
          refine cw_region (id := 7) rfl ?_
          all_goals (refine ow_cons ?_; refine st_alloc (fun bN => ?_))
          all_goals (refine ow_cons ?_; first | refine kStore ?_ | refine kStoreA ?_ | refine kStoreR ?_)
          all_goals refine ow_nil ?_)
      | (
          refine cw_region (id := 8) rfl ?_
          all_goals refine wField ?_
          all_goals refine wLoad ?_
          all_goals refine ow_nil ?_)
      | (
          refine cw_region (id := 10) rfl ?_
          all_goals (refine ow_cons ?_; first | refine kStore ?_ | refine kStoreA ?_ | refine kStoreR ?_)
          all_goals (refine ow_cons ?_; first | refine kStore ?_ | refine kStoreA ?_ | refine kStoreR ?_)
          all_goals (refine ow_cons ?_; first | refine kStore ?_ | refine kStoreA ?_ | refine kStoreR ?_)
          all_goals refine ow_nil ?_)
      | refine cw_seq ?_
      | refine tq_n ?_
      | (refine isCW ?_; first | refine cw_region rfl ?_ | refine cw_skip ?_ | refine cw_ret ?_ | refine cw_exit ?_ | refine cw_block ?_ | refine cTrue ?_ | refine cFalse ?_ | refine cT ?_ | refine cF ?_ | refine cS (fun hc => ?_) (fun hc => ?_) | refine cB (fun hc => ?_) (fun hc => ?_))
      | refine tq_ret ?_ | refine tq_exit ?_ | refine bq_n ?_ | refine bq_ret ?_ | refine bq_same ?_ | refine bq_ne rfl ?_
      | refine ow_cons ?_ | refine ow_nil ?_
      | (refine isOpK ?_; first
        | (refine isG ?_; first | refine opk_yes rfl rfl ?_ | refine opk_no rfl rfl ?_ | refine opk_no_undef rfl rfl ?_ | refine opk_g_t rfl rfl (by omega) ?_ | refine opk_g_f rfl rfl (by omega) ?_ | refine opk_g_s rfl rfl (fun hc => ?_) (fun hc => ?_) | refine opk_g_b rfl rfl (fun hc => ?_) (fun hc => ?_))
        | refine kRd ?_
        | refine kStore ?_
        | refine kStoreA ?_
        | refine kStoreR ?_
        | (refine kIdxR (fun g hg => ?_); subst hg)
        | (refine kIdxO (fun gb go hg => ?_); subst hg)
        | refine st_alloc (fun bN => ?_)
        | refine kBox (fun bN => ?_)
        | refine kBoxA (fun bN => ?_)
        | (refine st_buildSlice rfl rfl rfl rfl (fun bN => ?_))
        | (refine st_clearR rfl selA rfl (by omega) rfl rfl rfl ?_)
        | (refine st_clearR rfl selA (by omega) (by omega) rfl rfl rfl ?_))
      | refine hw_cons ?_ | refine hw_nil ?_
      | (refine isOpS ?_; first
        | (refine os_isG ?_; first | refine os_yes rfl rfl ?_ | refine os_no rfl rfl ?_ | refine os_no_undef rfl rfl ?_ | refine os_g_t rfl rfl (by omega) ?_ | refine os_g_f rfl rfl (by omega) ?_ | refine os_g_s rfl rfl (fun hc => ?_) (fun hc => ?_) | refine os_g_b rfl rfl (fun hc => ?_) (fun hc => ?_))
        | refine sRd ?_))
    exact retM_ret (retV_list (rvs := [.cell 2 3, .cell 3 4, .cell 4 4]) (vs := [i6 _, .bool _, .bool _]) rfl (.cell rfl selA (.cell rfl selA (.cell rfl selA .nil))) rfl) ⟨by simp only [St.timer, hws]; rfl, rfl⟩ (fun _ _ h => pick2 h selA selA)
  | cons q rest =>
    have hq0 : s.waits[0]? = some q := by rw [hws]; rfl
    have hqb := hq q (by rw [hws]; simp)
    have htm : s.timer = if q.number < s.best then (q.at_ + s.wait, true, true) else match s.waits.reverse.find? (·.asks) with | some p => (p.at_ + s.rto, true, false) | none => (0, false, false) := by
      simp only [St.timer]; rw [hws]
    rw [← hws]
    have hlen : 0 < s.waits.length := by rw [hws]; simp
    repeat' (first
      | (
          refine cw_region (id := 0) rfl ?_
          all_goals (refine ow_cons ?_; first | refine kBox (fun bN => ?_) | refine kBoxA (fun bN => ?_))
          all_goals (refine ow_cons ?_; refine st_alloc (fun bN => ?_))
          all_goals (refine ow_cons ?_; refine st_alloc (fun bN => ?_))
          all_goals (refine ow_cons ?_; refine st_alloc (fun bN => ?_))
          all_goals refine ow_nil ?_)
      | (
          refine cw_region (id := 1) rfl ?_
          all_goals refine wLoad ?_
          all_goals refine wEql ?_
          all_goals refine wMove ?_
          all_goals (refine ow_cons ?_; first | refine gNo ?_ | refine gUn ?_ | (refine gYes ?_; refine kLoad ?_) | (refine gTf ?_; refine kLoad ?_) | refine gFf ?_ | (refine gSf (fun hc => ?_) (fun hc => ?_); rotate_left; (focus (refine kLoad ?_)); rotate_right) | (refine gBf (fun hc => ?_) (fun hc => ?_); rotate_left; (focus (refine kLoad ?_)); rotate_right))
          all_goals (refine ow_cons ?_; first | refine gNo ?_ | refine gUn ?_ | (refine gYes ?_; refine kCheck ?_) | (refine gTf ?_; refine kCheck ?_) | refine gFf ?_ | (refine gSf (fun hc => ?_) (fun hc => ?_); rotate_left; (focus (refine kCheck ?_)); rotate_right) | (refine gBf (fun hc => ?_) (fun hc => ?_); rotate_left; (focus (refine kCheck ?_)); rotate_right))
          all_goals (refine ow_cons ?_; first | refine gNo ?_ | refine gUn ?_ | (refine gYes ?_; refine kField ?_) | (refine gTf ?_; refine kField ?_) | refine gFf ?_ | (refine gSf (fun hc => ?_) (fun hc => ?_); rotate_left; (focus (refine kField ?_)); rotate_right) | (refine gBf (fun hc => ?_) (fun hc => ?_); rotate_left; (focus (refine kField ?_)); rotate_right))
          all_goals (refine ow_cons ?_; first | refine gNo ?_ | refine gUn ?_ | (refine gYes ?_; refine kLoad ?_) | (refine gTf ?_; refine kLoad ?_) | refine gFf ?_ | (refine gSf (fun hc => ?_) (fun hc => ?_); rotate_left; (focus (refine kLoad ?_)); rotate_right) | (refine gBf (fun hc => ?_) (fun hc => ?_); rotate_left; (focus (refine kLoad ?_)); rotate_right))
          all_goals (refine ow_cons ?_; first | refine gNo ?_ | refine gUn ?_ | (refine gYes ?_; refine kLen ?_) | (refine gTf ?_; refine kLen ?_) | refine gFf ?_ | (refine gSf (fun hc => ?_) (fun hc => ?_); rotate_left; (focus (refine kLen ?_)); rotate_right) | (refine gBf (fun hc => ?_) (fun hc => ?_); rotate_left; (focus (refine kLen ?_)); rotate_right))
          all_goals (refine ow_cons ?_; first | refine gNo ?_ | refine gUn ?_ | (refine gYes ?_; refine kEql ?_) | (refine gTf ?_; refine kEql ?_) | refine gFf ?_ | (refine gSf (fun hc => ?_) (fun hc => ?_); rotate_left; (focus (refine kEql ?_)); rotate_right) | (refine gBf (fun hc => ?_) (fun hc => ?_); rotate_left; (focus (refine kEql ?_)); rotate_right))
          all_goals refine wPick ?_
          all_goals refine ow_nil ?_)
      | (
          refine cw_region (id := 2) rfl ?_
          all_goals (refine ow_cons ?_; first | refine kStore ?_ | refine kStoreA ?_ | refine kStoreR ?_)
          all_goals (refine ow_cons ?_; first | refine kStore ?_ | refine kStoreA ?_ | refine kStoreR ?_)
          all_goals (refine ow_cons ?_; first | refine kStore ?_ | refine kStoreA ?_ | refine kStoreR ?_)
          all_goals refine ow_nil ?_)
      | (
          refine cw_region (id := 3) rfl ?_
          all_goals refine wLoad ?_
          all_goals refine wCheck ?_
          all_goals refine wField ?_
          all_goals refine wLoad ?_
          all_goals (refine ow_cons ?_; first | refine kIndex ?_ | (refine st_idxRi 0 rfl rfl rfl selA (by omega) (by omega) (fun g hg => ?_); subst hg) | (refine kIdxR (fun g hg => ?_); subst hg) | (refine kIdxO (fun gb go hg => ?_); subst hg))
          all_goals refine wLoad ?_
          all_goals (refine ow_cons ?_; refine st_alloc (fun bN => ?_))
          all_goals (refine ow_cons ?_; first | refine kStore ?_ | refine kStoreA ?_ | refine kStoreR ?_)
          all_goals refine ow_nil ?_)
      | (
          refine cw_draw (id := 4) 7 (by kernel_rfl) (by kernel_rfl) rfl ?_
          all_goals refine hField ?_
          all_goals refine hLoad ?_
          all_goals refine hLoad ?_
          all_goals refine hCheck ?_
          all_goals refine hField ?_
          all_goals refine hLoad ?_
          all_goals refine hLss ?_
          all_goals refine hw_nil ?_
          all_goals refine ow_nil ?_)
      | (
            refine cw_drawX (id := 5) (.cons sel0 (.cons sel3 (.nil _))) (by kernel_rfl) rfl ?_
            repeat' (first
              | (refine ax_take (done := []) 0 rfl (by kernel_rfl) (.cons selA (.cons selA (.nil _))) ?_; refine sField ?_)
              | (refine ax_take (done := [0]) 1 rfl (by kernel_rfl) (.cons selA (.cons selA (.nil _))) ?_; refine sLoad ?_)
              | (refine ax_take (done := [1, 0]) 2 rfl (by kernel_rfl) (.cons selA (.cons selA (.nil _))) ?_; refine sLoad ?_)
              | (refine ax_one (done := [2, 1, 0]) 3 rfl (by kernel_rfl) (.cons selA (.cons selA (.nil _))) ?_; (refine st_call (av := [_]) rfl (wait_spec b s _ cap h0 hla) (.cons selA (.nil _)) ?_; rintro v L' ⟨rfl, rfl⟩))
              | (refine ax_take (done := [3, 2, 1, 0]) 4 rfl (by kernel_rfl) (.cons selA (.cons selA (.nil _))) ?_; refine sAdd ?_)
              | (refine ax_one (done := [4, 3, 2, 1, 0]) 5 rfl (by kernel_rfl) (.cons selA (.cons selA (.nil _))) ?_; first | refine kStore ?_ | refine kStoreA ?_ | refine kStoreR ?_)
              | (refine ax_one (done := [5, 4, 3, 2, 1, 0]) 6 rfl (by kernel_rfl) (.cons selA (.cons selA (.nil _))) ?_; first | refine kStore ?_ | refine kStoreA ?_ | refine kStoreR ?_)
              | (refine ax_one (done := [6, 5, 4, 3, 2, 1, 0]) 7 rfl (by kernel_rfl) (.cons selA (.cons selA (.nil _))) ?_; first | refine kStore ?_ | refine kStoreA ?_ | refine kStoreR ?_)
              | refine ax_done (done := [7, 6, 5, 4, 3, 2, 1, 0]) (by kernel_rfl) (.cons selA (.cons selA (.nil _))) ?_))
      | (
          refine cw_region (id := 6) rfl ?_
          all_goals refine wLoad ?_
          all_goals refine wCheck ?_
          all_goals refine wField ?_
          all_goals refine wLoad ?_
          all_goals (refine ow_cons ?_; (refine st_call (av := [_]) rfl (back52 _ _ _) (.nil _) ?_; rintro v L' ⟨c, rfl, rfl⟩))
          all_goals refine ow_nil ?_)
      | (
          refine cw_region (id := 7) rfl ?_
          all_goals (refine ow_cons ?_; refine st_alloc (fun bN => ?_))
          all_goals (refine ow_cons ?_; first | refine kStore ?_ | refine kStoreA ?_ | refine kStoreR ?_)
          all_goals refine ow_nil ?_)
      | (
          refine cw_region (id := 8) rfl ?_
          all_goals refine wField ?_
          all_goals refine wLoad ?_
          all_goals refine ow_nil ?_)
      | (
          refine cw_region (id := 10) rfl ?_
          all_goals (refine ow_cons ?_; first | refine kStore ?_ | refine kStoreA ?_ | refine kStoreR ?_)
          all_goals (refine ow_cons ?_; first | refine kStore ?_ | refine kStoreA ?_ | refine kStoreR ?_)
          all_goals (refine ow_cons ?_; first | refine kStore ?_ | refine kStoreA ?_ | refine kStoreR ?_)
          all_goals refine ow_nil ?_)
      | refine cw_seq ?_
      | refine tq_n ?_
      | (refine isCW ?_; first | refine cw_region rfl ?_ | refine cw_skip ?_ | refine cw_ret ?_ | refine cw_exit ?_ | refine cw_block ?_ | refine cTrue ?_ | refine cFalse ?_ | refine cT ?_ | refine cF ?_ | refine cS (fun hc => ?_) (fun hc => ?_) | refine cB (fun hc => ?_) (fun hc => ?_))
      | refine tq_ret ?_ | refine tq_exit ?_ | refine bq_n ?_ | refine bq_ret ?_ | refine bq_same ?_ | refine bq_ne rfl ?_
      | refine ow_cons ?_ | refine ow_nil ?_
      | (refine isOpK ?_; first
        | (refine isG ?_; first | refine opk_yes rfl rfl ?_ | refine opk_no rfl rfl ?_ | refine opk_no_undef rfl rfl ?_ | refine opk_g_t rfl rfl (by omega) ?_ | refine opk_g_f rfl rfl (by omega) ?_ | refine opk_g_s rfl rfl (fun hc => ?_) (fun hc => ?_) | refine opk_g_b rfl rfl (fun hc => ?_) (fun hc => ?_))
        | refine kRd ?_
        | refine kStore ?_
        | refine kStoreA ?_
        | refine kStoreR ?_
        | (refine st_idxRi 0 rfl rfl rfl selA (by omega) (by omega) (fun g hg => ?_); subst hg)
        | (refine kIdxR (fun g hg => ?_); subst hg)
        | (refine kIdxO (fun gb go hg => ?_); subst hg)
        | refine st_alloc (fun bN => ?_)
        | refine kBox (fun bN => ?_)
        | refine kBoxA (fun bN => ?_)
        | (refine st_buildSlice rfl rfl rfl rfl (fun bN => ?_))
        | (refine st_clearR rfl selA rfl (by omega) rfl rfl rfl ?_)
        | (refine st_clearR rfl selA (by omega) (by omega) rfl rfl rfl ?_)
        | (refine st_call (av := [_]) rfl (wait_spec b s _ cap h0 hla) (.cons selA (.nil _)) ?_; rintro v L' ⟨rfl, rfl⟩)
        | (refine st_call (av := [_]) rfl (back52 _ _ _) (.nil _) ?_; rintro v L' ⟨c, rfl, rfl⟩))
      | refine hw_cons ?_ | refine hw_nil ?_
      | (refine isOpS ?_; first
        | (refine os_isG ?_; first | refine os_yes rfl rfl ?_ | refine os_no rfl rfl ?_ | refine os_no_undef rfl rfl ?_ | refine os_g_t rfl rfl (by omega) ?_ | refine os_g_f rfl rfl (by omega) ?_ | refine os_g_s rfl rfl (fun hc => ?_) (fun hc => ?_) | refine os_g_b rfl rfl (fun hc => ?_) (fun hc => ?_))
        | refine sRd ?_))
    · exact retM_ret (retV_list (rvs := [.cell 2 3, .cell 3 4, .cell 4 4]) (vs := [i6 _, .bool _, .bool _]) rfl (.cell rfl selA (.cell rfl selA (.cell rfl selA .nil))) rfl) ⟨by rw [htm, if_pos hc]; rfl, rfl⟩ (fun _ _ h => pick2 h selA selA)
    · rename_i r1 r2 r3 r4
      rw [if_neg hc] at htm
      refine cw_env [(1, ptr r1), (2, ptr r2), (3, ptr r3), (4, ptr r4), (40, .func (.func 53) #[] #[ptr c])] ⟨rfl, rfl, rfl, rfl, rfl, trivial⟩ fun e' => ?_
      dsimp only [upds]
      refine cw_rangeFunc (gf := 53) (caps := [ptr c]) (ps := [41, 42]) (xs := back s.waits) (A := [blk c 61 [.slice (oad (some g)) s.waits.length cap], row (some g) 66 cap tPk s.waits]) (R := [blk bN 66 (tPk.enc q), blk r4 4 [.bool false], blk r3 4 [.bool false], blk r2 3 [i6 0], blk r1 24 [ptr b], blk b 63 (encS s (some g) cap)])
        rfl rfl (.cons sel0 (.cons sel6 (.nil _))) (iter53r c (some g) cap s.waits (by omega))
        (fun k L1 => (∀ (j : Nat) (x : Pk), j < k → s.waits.reverse[j]? = some x → x.asks = false) ∧ L1 = [blk bN 66 (tPk.enc q), blk r4 4 [.bool false], blk r3 4 [.bool false], blk r2 3 [i6 0], blk r1 24 [ptr b], blk b 63 (encS s (some g) cap)])
        (fun cd k L1 => cd = .ret ∧ ∃ p, s.waits.reverse.find? (·.asks) = some p ∧ L1 = [blk bN 66 (tPk.enc q), blk r4 4 [.bool false], blk r3 4 [.bool true], blk r2 3 [i6 (p.at_ + s.rto)], blk r1 24 [ptr b], blk b 63 (encS s (some g) cap)])
        ⟨fun j x h => by omega, rfl⟩ ?_ rfl ?_ ?_ ?_
      · intro x hx
        obtain ⟨k, hk⟩ := List.mem_iff_getElem?.1 hx
        obtain ⟨q, _, rfl⟩ := back_rev hk
        rfl
      · rintro l w1 rec k x L1 hk ⟨hno, rfl⟩
        obtain ⟨p, hp, rfl⟩ := back_rev hk
        have hpb := hq p (List.mem_reverse.1 (List.mem_of_getElem? hp))
        repeat' (first
          | (
              refine cw_region (id := 0) rfl ?_
              all_goals (refine ow_cons ?_; first | refine kBox (fun bN => ?_) | refine kBoxA (fun bN => ?_))
              all_goals (refine ow_cons ?_; refine st_alloc (fun bN => ?_))
              all_goals (refine ow_cons ?_; refine st_alloc (fun bN => ?_))
              all_goals (refine ow_cons ?_; refine st_alloc (fun bN => ?_))
              all_goals refine ow_nil ?_)
          | (
              refine cw_region (id := 1) rfl ?_
              all_goals refine wLoad ?_
              all_goals (refine ow_cons ?_; first | refine st_rd (rd_shl rfl rfl (by omega) hsh) ?_ | refine kEql ?_)
              all_goals refine wMove ?_
              all_goals (refine ow_cons ?_; first | refine gNo ?_ | refine gUn ?_ | (refine gYes ?_; refine kLoad ?_) | (refine gTf ?_; refine kLoad ?_) | refine gFf ?_ | (refine gSf (fun hc => ?_) (fun hc => ?_); rotate_left; (focus (refine kLoad ?_)); rotate_right) | (refine gBf (fun hc => ?_) (fun hc => ?_); rotate_left; (focus (refine kLoad ?_)); rotate_right))
              all_goals (refine ow_cons ?_; first | refine gNo ?_ | refine gUn ?_ | (refine gYes ?_; refine kCheck ?_) | (refine gTf ?_; refine kCheck ?_) | refine gFf ?_ | (refine gSf (fun hc => ?_) (fun hc => ?_); rotate_left; (focus (refine kCheck ?_)); rotate_right) | (refine gBf (fun hc => ?_) (fun hc => ?_); rotate_left; (focus (refine kCheck ?_)); rotate_right))
              all_goals (refine ow_cons ?_; first | refine gNo ?_ | refine gUn ?_ | (refine gYes ?_; refine kField ?_) | (refine gTf ?_; refine kField ?_) | refine gFf ?_ | (refine gSf (fun hc => ?_) (fun hc => ?_); rotate_left; (focus (refine kField ?_)); rotate_right) | (refine gBf (fun hc => ?_) (fun hc => ?_); rotate_left; (focus (refine kField ?_)); rotate_right))
              all_goals (refine ow_cons ?_; first | refine gNo ?_ | refine gUn ?_ | (refine gYes ?_; refine kLoad ?_) | (refine gTf ?_; refine kLoad ?_) | refine gFf ?_ | (refine gSf (fun hc => ?_) (fun hc => ?_); rotate_left; (focus (refine kLoad ?_)); rotate_right) | (refine gBf (fun hc => ?_) (fun hc => ?_); rotate_left; (focus (refine kLoad ?_)); rotate_right))
              all_goals (refine ow_cons ?_; first | refine gNo ?_ | refine gUn ?_ | (refine gYes ?_; refine kLen ?_) | (refine gTf ?_; refine kLen ?_) | refine gFf ?_ | (refine gSf (fun hc => ?_) (fun hc => ?_); rotate_left; (focus (refine kLen ?_)); rotate_right) | (refine gBf (fun hc => ?_) (fun hc => ?_); rotate_left; (focus (refine kLen ?_)); rotate_right))
              all_goals (refine ow_cons ?_; first | refine gNo ?_ | refine gUn ?_ | (refine gYes ?_; first | refine st_rd (rd_shl rfl rfl (by omega) hsh) ?_ | refine kEql ?_) | (refine gTf ?_; first | refine st_rd (rd_shl rfl rfl (by omega) hsh) ?_ | refine kEql ?_) | refine gFf ?_ | (refine gSf (fun hc => ?_) (fun hc => ?_); rotate_left; (focus (first | refine st_rd (rd_shl rfl rfl (by omega) hsh) ?_ | refine kEql ?_)); rotate_right) | (refine gBf (fun hc => ?_) (fun hc => ?_); rotate_left; (focus (first | refine st_rd (rd_shl rfl rfl (by omega) hsh) ?_ | refine kEql ?_)); rotate_right))
              all_goals refine wPick ?_
              all_goals refine ow_nil ?_)
          | (
              refine cw_region (id := 2) rfl ?_
              all_goals (refine ow_cons ?_; first | refine kStore ?_ | refine kStoreA ?_ | refine kStoreR ?_)
              all_goals (refine ow_cons ?_; first | refine kStore ?_ | refine kStoreA ?_ | refine kStoreR ?_)
              all_goals (refine ow_cons ?_; first | refine kStore ?_ | refine kStoreA ?_ | refine kStoreR ?_)
              all_goals refine ow_nil ?_)
          | (
              refine cw_region (id := 3) rfl ?_
              all_goals refine wLoad ?_
              all_goals refine wCheck ?_
              all_goals refine wField ?_
              all_goals refine wLoad ?_
              all_goals (refine ow_cons ?_; first | refine kIndex ?_ | (refine kIdxR (fun g hg => ?_); subst hg) | (refine kIdxO (fun gb go hg => ?_); subst hg))
              all_goals refine wLoad ?_
              all_goals (refine ow_cons ?_; refine st_alloc (fun bN => ?_))
              all_goals (refine ow_cons ?_; first | refine kStore ?_ | refine kStoreA ?_ | refine kStoreR ?_)
              all_goals refine ow_nil ?_)
          | (
              refine cw_draw (id := 4) 7 (by kernel_rfl) (by kernel_rfl) rfl ?_
              all_goals refine hField ?_
              all_goals refine hLoad ?_
              all_goals refine hLoad ?_
              all_goals refine hCheck ?_
              all_goals refine hField ?_
              all_goals refine hLoad ?_
              all_goals (refine hw_cons ?_; first | refine os_rd (rd_shl rfl rfl (by omega) hsh) ?_ | refine sLss ?_)
              all_goals refine hw_nil ?_
              all_goals refine ow_nil ?_)
          | (
              refine cw_region (id := 7) rfl ?_
              all_goals (refine ow_cons ?_; refine st_alloc (fun bN => ?_))
              all_goals (refine ow_cons ?_; first | refine kStore ?_ | refine kStoreA ?_ | refine kStoreR ?_)
              all_goals refine ow_nil ?_)
          | (
              refine cw_region (id := 8) rfl ?_
              all_goals refine wField ?_
              all_goals refine wLoad ?_
              all_goals refine ow_nil ?_)
          | (
              refine cw_draw (id := 9) 20 (by kernel_rfl) (by kernel_rfl) rfl ?_
              all_goals refine hField ?_
              all_goals refine hLoad ?_
              all_goals refine hLoad ?_
              all_goals refine hCheck ?_
              all_goals refine hField ?_
              all_goals refine hLoad ?_
              all_goals refine hLoad ?_
              all_goals refine hCheck ?_
              all_goals refine hField ?_
              all_goals refine hLoad ?_
              all_goals (refine hw_cons ?_; first | refine os_rd (rd_shl rfl rfl (by omega) hsh) ?_ | refine sMul ?_)
              all_goals refine hMax ?_
              all_goals (refine hw_cons ?_; first | refine os_rd (rd_shl rfl rfl (by omega) hsh) ?_ | refine sAdd ?_)
              all_goals (refine hw_cons ?_; first | refine os_rd (rd_shl rfl rfl (by omega) hsh) ?_ | refine sAdd ?_)
              all_goals refine hLoad ?_
              all_goals refine hCheck ?_
              all_goals refine hField ?_
              all_goals refine hLoad ?_
              all_goals (refine hw_cons ?_; refine os_rd (rd_shl rfl rfl (by omega) hsh) ?_)
              all_goals (refine hw_cons ?_; first | refine os_rd (rd_shl rfl rfl (by omega) hsh) ?_ | refine sAdd ?_)
              all_goals refine hw_nil ?_
              all_goals (refine ow_cons ?_; first | refine kStore ?_ | refine kStoreA ?_ | refine kStoreR ?_)
              all_goals (refine ow_cons ?_; first | refine kStore ?_ | refine kStoreA ?_ | refine kStoreR ?_)
              all_goals (refine ow_cons ?_; first | refine kStore ?_ | refine kStoreA ?_ | refine kStoreR ?_)
              all_goals refine ow_nil ?_)
          | (
              refine cw_region (id := 10) rfl ?_
              all_goals (refine ow_cons ?_; first | refine kStore ?_ | refine kStoreA ?_ | refine kStoreR ?_)
              all_goals (refine ow_cons ?_; first | refine kStore ?_ | refine kStoreA ?_ | refine kStoreR ?_)
              all_goals (refine ow_cons ?_; first | refine kStore ?_ | refine kStoreA ?_ | refine kStoreR ?_)
              all_goals refine ow_nil ?_)
          | refine cw_seq ?_
          | refine tq_n ?_
          | (refine isCW ?_; first | refine cw_region rfl ?_ | refine cw_skip ?_ | refine cw_ret ?_ | refine cw_exit ?_ | refine cw_block ?_ | refine cTrue ?_ | refine cFalse ?_ | refine cT ?_ | refine cF ?_ | refine cS (fun hc => ?_) (fun hc => ?_) | refine cB (fun hc => ?_) (fun hc => ?_))
          | refine tq_ret ?_ | refine tq_exit ?_ | refine bq_n ?_ | refine bq_ret ?_ | refine bq_same ?_ | refine bq_ne rfl ?_
          | refine ow_cons ?_ | refine ow_nil ?_
          | (refine isOpK ?_; first
            | (refine isG ?_; first | refine opk_yes rfl rfl ?_ | refine opk_no rfl rfl ?_ | refine opk_no_undef rfl rfl ?_ | refine opk_g_t rfl rfl (by omega) ?_ | refine opk_g_f rfl rfl (by omega) ?_ | refine opk_g_s rfl rfl (fun hc => ?_) (fun hc => ?_) | refine opk_g_b rfl rfl (fun hc => ?_) (fun hc => ?_))
            | refine st_rd (by exact rd_shl rfl rfl (by omega) hsh) ?_
            | refine kRd ?_
            | refine kStore ?_
            | refine kStoreA ?_
            | refine kStoreR ?_
            | (refine kIdxR (fun g hg => ?_); subst hg)
            | (refine kIdxO (fun gb go hg => ?_); subst hg)
            | refine st_alloc (fun bN => ?_)
            | refine kBox (fun bN => ?_)
            | refine kBoxA (fun bN => ?_)
            | (refine st_buildSlice rfl rfl rfl rfl (fun bN => ?_))
            | (refine st_clearR rfl selA rfl (by omega) rfl rfl rfl ?_)
            | (refine st_clearR rfl selA (by omega) (by omega) rfl rfl rfl ?_))
          | refine hw_cons ?_ | refine hw_nil ?_
          | (refine isOpS ?_; first
            | (refine os_isG ?_; first | refine os_yes rfl rfl ?_ | refine os_no rfl rfl ?_ | refine os_no_undef rfl rfl ?_ | refine os_g_t rfl rfl (by omega) ?_ | refine os_g_f rfl rfl (by omega) ?_ | refine os_g_s rfl rfl (fun hc => ?_) (fun hc => ?_) | refine os_g_b rfl rfl (fun hc => ?_) (fun hc => ?_))
            | refine os_rd (by exact rd_shl rfl rfl (by omega) hsh) ?_
            | refine sRd ?_)
          | refine asg_n selA ?_)
        · exact rnd_ret _ ⟨rfl, p, find_at hp hc hno, rfl⟩ (fun _ _ _ h => pickL h (.cons selA (.cons selA (.cons selA (.cons selA (.cons selA (.cons selA (.cons selA (.cons selA (.cons selA (.nil _)))))))))))
        · refine rnd_n _ ⟨fun j x hj hx => ?_, rfl⟩ (fun _ _ _ h => pickL h (.cons selA (.cons selA (.cons selA (.cons selA (.cons selA (.cons selA (.cons selA (.cons selA (.cons selA (.nil _)))))))))))
          rcases Nat.lt_succ_iff_lt_or_eq.1 hj with hj | rfl
          · exact hno j x hj hx
          · rw [hp] at hx; injection hx with hx; subst hx; simpa using hc
      · rintro r L1 ⟨hno, rfl⟩
        repeat' (first
          | (
              refine cw_region (id := 0) rfl ?_
              all_goals (refine ow_cons ?_; first | refine kBox (fun bN => ?_) | refine kBoxA (fun bN => ?_))
              all_goals (refine ow_cons ?_; refine st_alloc (fun bN => ?_))
              all_goals (refine ow_cons ?_; refine st_alloc (fun bN => ?_))
              all_goals (refine ow_cons ?_; refine st_alloc (fun bN => ?_))
              all_goals refine ow_nil ?_)
          | (
              refine cw_region (id := 1) rfl ?_
              all_goals refine wLoad ?_
              all_goals refine wEql ?_
              all_goals refine wMove ?_
              all_goals (refine ow_cons ?_; first | refine gNo ?_ | refine gUn ?_ | (refine gYes ?_; refine kLoad ?_) | (refine gTf ?_; refine kLoad ?_) | refine gFf ?_ | (refine gSf (fun hc => ?_) (fun hc => ?_); rotate_left; (focus (refine kLoad ?_)); rotate_right) | (refine gBf (fun hc => ?_) (fun hc => ?_); rotate_left; (focus (refine kLoad ?_)); rotate_right))
              all_goals (refine ow_cons ?_; first | refine gNo ?_ | refine gUn ?_ | (refine gYes ?_; refine kCheck ?_) | (refine gTf ?_; refine kCheck ?_) | refine gFf ?_ | (refine gSf (fun hc => ?_) (fun hc => ?_); rotate_left; (focus (refine kCheck ?_)); rotate_right) | (refine gBf (fun hc => ?_) (fun hc => ?_); rotate_left; (focus (refine kCheck ?_)); rotate_right))
              all_goals (refine ow_cons ?_; first | refine gNo ?_ | refine gUn ?_ | (refine gYes ?_; refine kField ?_) | (refine gTf ?_; refine kField ?_) | refine gFf ?_ | (refine gSf (fun hc => ?_) (fun hc => ?_); rotate_left; (focus (refine kField ?_)); rotate_right) | (refine gBf (fun hc => ?_) (fun hc => ?_); rotate_left; (focus (refine kField ?_)); rotate_right))
              all_goals (refine ow_cons ?_; first | refine gNo ?_ | refine gUn ?_ | (refine gYes ?_; refine kLoad ?_) | (refine gTf ?_; refine kLoad ?_) | refine gFf ?_ | (refine gSf (fun hc => ?_) (fun hc => ?_); rotate_left; (focus (refine kLoad ?_)); rotate_right) | (refine gBf (fun hc => ?_) (fun hc => ?_); rotate_left; (focus (refine kLoad ?_)); rotate_right))
              all_goals (refine ow_cons ?_; first | refine gNo ?_ | refine gUn ?_ | (refine gYes ?_; refine kLen ?_) | (refine gTf ?_; refine kLen ?_) | refine gFf ?_ | (refine gSf (fun hc => ?_) (fun hc => ?_); rotate_left; (focus (refine kLen ?_)); rotate_right) | (refine gBf (fun hc => ?_) (fun hc => ?_); rotate_left; (focus (refine kLen ?_)); rotate_right))
              all_goals (refine ow_cons ?_; first | refine gNo ?_ | refine gUn ?_ | (refine gYes ?_; refine kEql ?_) | (refine gTf ?_; refine kEql ?_) | refine gFf ?_ | (refine gSf (fun hc => ?_) (fun hc => ?_); rotate_left; (focus (refine kEql ?_)); rotate_right) | (refine gBf (fun hc => ?_) (fun hc => ?_); rotate_left; (focus (refine kEql ?_)); rotate_right))
              all_goals refine wPick ?_
              all_goals refine ow_nil ?_)
          | (
              refine cw_region (id := 2) rfl ?_
              all_goals (refine ow_cons ?_; first | refine kStore ?_ | refine kStoreA ?_ | refine kStoreR ?_)
              all_goals (refine ow_cons ?_; first | refine kStore ?_ | refine kStoreA ?_ | refine kStoreR ?_)
              all_goals (refine ow_cons ?_; first | refine kStore ?_ | refine kStoreA ?_ | refine kStoreR ?_)
              all_goals refine ow_nil ?_)
          | (
              refine cw_region (id := 3) rfl ?_
              all_goals refine wLoad ?_
              all_goals refine wCheck ?_
              all_goals refine wField ?_
              all_goals refine wLoad ?_
              all_goals (refine ow_cons ?_; first | refine kIndex ?_ | (refine kIdxR (fun g hg => ?_); subst hg) | (refine kIdxO (fun gb go hg => ?_); subst hg))
              all_goals refine wLoad ?_
              all_goals (refine ow_cons ?_; refine st_alloc (fun bN => ?_))
              all_goals (refine ow_cons ?_; first | refine kStore ?_ | refine kStoreA ?_ | refine kStoreR ?_)
              all_goals refine ow_nil ?_)
          | (
              refine cw_draw (id := 4) 7 (by kernel_rfl) (by kernel_rfl) rfl ?_
              all_goals refine hField ?_
              all_goals refine hLoad ?_
              all_goals refine hLoad ?_
              all_goals refine hCheck ?_
              all_goals refine hField ?_
              all_goals refine hLoad ?_
              all_goals refine hLss ?_
              all_goals refine hw_nil ?_
              all_goals refine ow_nil ?_)
          | (
              refine cw_region (id := 7) rfl ?_
              all_goals (refine ow_cons ?_; refine st_alloc (fun bN => ?_))
              all_goals (refine ow_cons ?_; first | refine kStore ?_ | refine kStoreA ?_ | refine kStoreR ?_)
              all_goals refine ow_nil ?_)
          | (
              refine cw_region (id := 8) rfl ?_
              all_goals refine wField ?_
              all_goals refine wLoad ?_
              all_goals refine ow_nil ?_)
          | (
              refine cw_region (id := 10) rfl ?_
              all_goals (refine ow_cons ?_; first | refine kStore ?_ | refine kStoreA ?_ | refine kStoreR ?_)
              all_goals (refine ow_cons ?_; first | refine kStore ?_ | refine kStoreA ?_ | refine kStoreR ?_)
              all_goals (refine ow_cons ?_; first | refine kStore ?_ | refine kStoreA ?_ | refine kStoreR ?_)
              all_goals refine ow_nil ?_)
          | refine cw_seq ?_
          | refine tq_n ?_
          | (refine isCW ?_; first | refine cw_region rfl ?_ | refine cw_skip ?_ | refine cw_ret ?_ | refine cw_exit ?_ | refine cw_block ?_ | refine cTrue ?_ | refine cFalse ?_ | refine cT ?_ | refine cF ?_ | refine cS (fun hc => ?_) (fun hc => ?_) | refine cB (fun hc => ?_) (fun hc => ?_))
          | refine tq_ret ?_ | refine tq_exit ?_ | refine bq_n ?_ | refine bq_ret ?_ | refine bq_same ?_ | refine bq_ne rfl ?_
          | refine ow_cons ?_ | refine ow_nil ?_
          | (refine isOpK ?_; first
            | (refine isG ?_; first | refine opk_yes rfl rfl ?_ | refine opk_no rfl rfl ?_ | refine opk_no_undef rfl rfl ?_ | refine opk_g_t rfl rfl (by omega) ?_ | refine opk_g_f rfl rfl (by omega) ?_ | refine opk_g_s rfl rfl (fun hc => ?_) (fun hc => ?_) | refine opk_g_b rfl rfl (fun hc => ?_) (fun hc => ?_))
            | refine kRd ?_
            | refine kStore ?_
            | refine kStoreA ?_
            | refine kStoreR ?_
            | (refine kIdxR (fun g hg => ?_); subst hg)
            | (refine kIdxO (fun gb go hg => ?_); subst hg)
            | refine st_alloc (fun bN => ?_)
            | refine kBox (fun bN => ?_)
            | refine kBoxA (fun bN => ?_)
            | (refine st_buildSlice rfl rfl rfl rfl (fun bN => ?_))
            | (refine st_clearR rfl selA rfl (by omega) rfl rfl rfl ?_)
            | (refine st_clearR rfl selA (by omega) (by omega) rfl rfl rfl ?_))
          | refine hw_cons ?_ | refine hw_nil ?_
          | (refine isOpS ?_; first
            | (refine os_isG ?_; first | refine os_yes rfl rfl ?_ | refine os_no rfl rfl ?_ | refine os_no_undef rfl rfl ?_ | refine os_g_t rfl rfl (by omega) ?_ | refine os_g_f rfl rfl (by omega) ?_ | refine os_g_s rfl rfl (fun hc => ?_) (fun hc => ?_) | refine os_g_b rfl rfl (fun hc => ?_) (fun hc => ?_))
            | refine sRd ?_))
        rw [find_no fun j x hx => hno j x (by rw [back_length]; have := (List.getElem?_eq_some_iff.1 hx).1; simpa using this) hx] at htm
        exact retM_ret1 selA (retV_list (rvs := [.cell 2 3, .cell 3 4, .cell 4 4]) (vs := [i6 _, .bool _, .bool _]) rfl (.cell rfl selA (.cell rfl selA (.cell rfl selA .nil))) rfl) ⟨by rw [htm]; rfl, rfl⟩ (fun _ _ h => pick2 h selA selA)
      · rintro r cd k L1 hk ⟨rfl, p, hp, rfl⟩
        repeat' (first
          | (
              refine cw_region (id := 0) rfl ?_
              all_goals (refine ow_cons ?_; first | refine kBox (fun bN => ?_) | refine kBoxA (fun bN => ?_))
              all_goals (refine ow_cons ?_; refine st_alloc (fun bN => ?_))
              all_goals (refine ow_cons ?_; refine st_alloc (fun bN => ?_))
              all_goals (refine ow_cons ?_; refine st_alloc (fun bN => ?_))
              all_goals refine ow_nil ?_)
          | (
              refine cw_region (id := 1) rfl ?_
              all_goals refine wLoad ?_
              all_goals refine wEql ?_
              all_goals refine wMove ?_
              all_goals (refine ow_cons ?_; first | refine gNo ?_ | refine gUn ?_ | (refine gYes ?_; refine kLoad ?_) | (refine gTf ?_; refine kLoad ?_) | refine gFf ?_ | (refine gSf (fun hc => ?_) (fun hc => ?_); rotate_left; (focus (refine kLoad ?_)); rotate_right) | (refine gBf (fun hc => ?_) (fun hc => ?_); rotate_left; (focus (refine kLoad ?_)); rotate_right))
              all_goals (refine ow_cons ?_; first | refine gNo ?_ | refine gUn ?_ | (refine gYes ?_; refine kCheck ?_) | (refine gTf ?_; refine kCheck ?_) | refine gFf ?_ | (refine gSf (fun hc => ?_) (fun hc => ?_); rotate_left; (focus (refine kCheck ?_)); rotate_right) | (refine gBf (fun hc => ?_) (fun hc => ?_); rotate_left; (focus (refine kCheck ?_)); rotate_right))
              all_goals (refine ow_cons ?_; first | refine gNo ?_ | refine gUn ?_ | (refine gYes ?_; refine kField ?_) | (refine gTf ?_; refine kField ?_) | refine gFf ?_ | (refine gSf (fun hc => ?_) (fun hc => ?_); rotate_left; (focus (refine kField ?_)); rotate_right) | (refine gBf (fun hc => ?_) (fun hc => ?_); rotate_left; (focus (refine kField ?_)); rotate_right))
              all_goals (refine ow_cons ?_; first | refine gNo ?_ | refine gUn ?_ | (refine gYes ?_; refine kLoad ?_) | (refine gTf ?_; refine kLoad ?_) | refine gFf ?_ | (refine gSf (fun hc => ?_) (fun hc => ?_); rotate_left; (focus (refine kLoad ?_)); rotate_right) | (refine gBf (fun hc => ?_) (fun hc => ?_); rotate_left; (focus (refine kLoad ?_)); rotate_right))
              all_goals (refine ow_cons ?_; first | refine gNo ?_ | refine gUn ?_ | (refine gYes ?_; refine kLen ?_) | (refine gTf ?_; refine kLen ?_) | refine gFf ?_ | (refine gSf (fun hc => ?_) (fun hc => ?_); rotate_left; (focus (refine kLen ?_)); rotate_right) | (refine gBf (fun hc => ?_) (fun hc => ?_); rotate_left; (focus (refine kLen ?_)); rotate_right))
              all_goals (refine ow_cons ?_; first | refine gNo ?_ | refine gUn ?_ | (refine gYes ?_; refine kEql ?_) | (refine gTf ?_; refine kEql ?_) | refine gFf ?_ | (refine gSf (fun hc => ?_) (fun hc => ?_); rotate_left; (focus (refine kEql ?_)); rotate_right) | (refine gBf (fun hc => ?_) (fun hc => ?_); rotate_left; (focus (refine kEql ?_)); rotate_right))
              all_goals refine wPick ?_
              all_goals refine ow_nil ?_)
          | (
              refine cw_region (id := 2) rfl ?_
              all_goals (refine ow_cons ?_; first | refine kStore ?_ | refine kStoreA ?_ | refine kStoreR ?_)
              all_goals (refine ow_cons ?_; first | refine kStore ?_ | refine kStoreA ?_ | refine kStoreR ?_)
              all_goals (refine ow_cons ?_; first | refine kStore ?_ | refine kStoreA ?_ | refine kStoreR ?_)
              all_goals refine ow_nil ?_)
          | (
              refine cw_region (id := 3) rfl ?_
              all_goals refine wLoad ?_
              all_goals refine wCheck ?_
              all_goals refine wField ?_
              all_goals refine wLoad ?_
              all_goals (refine ow_cons ?_; first | refine kIndex ?_ | (refine kIdxR (fun g hg => ?_); subst hg) | (refine kIdxO (fun gb go hg => ?_); subst hg))
              all_goals refine wLoad ?_
              all_goals (refine ow_cons ?_; refine st_alloc (fun bN => ?_))
              all_goals (refine ow_cons ?_; first | refine kStore ?_ | refine kStoreA ?_ | refine kStoreR ?_)
              all_goals refine ow_nil ?_)
          | (
              refine cw_draw (id := 4) 7 (by kernel_rfl) (by kernel_rfl) rfl ?_
              all_goals refine hField ?_
              all_goals refine hLoad ?_
              all_goals refine hLoad ?_
              all_goals refine hCheck ?_
              all_goals refine hField ?_
              all_goals refine hLoad ?_
              all_goals refine hLss ?_
              all_goals refine hw_nil ?_
              all_goals refine ow_nil ?_)
          | (
              refine cw_region (id := 7) rfl ?_
              all_goals (refine ow_cons ?_; refine st_alloc (fun bN => ?_))
              all_goals (refine ow_cons ?_; first | refine kStore ?_ | refine kStoreA ?_ | refine kStoreR ?_)
              all_goals refine ow_nil ?_)
          | (
              refine cw_region (id := 8) rfl ?_
              all_goals refine wField ?_
              all_goals refine wLoad ?_
              all_goals refine ow_nil ?_)
          | (
              refine cw_region (id := 10) rfl ?_
              all_goals (refine ow_cons ?_; first | refine kStore ?_ | refine kStoreA ?_ | refine kStoreR ?_)
              all_goals (refine ow_cons ?_; first | refine kStore ?_ | refine kStoreA ?_ | refine kStoreR ?_)
              all_goals (refine ow_cons ?_; first | refine kStore ?_ | refine kStoreA ?_ | refine kStoreR ?_)
              all_goals refine ow_nil ?_)
          | refine cw_seq ?_
          | refine tq_n ?_
          | (refine isCW ?_; first | refine cw_region rfl ?_ | refine cw_skip ?_ | refine cw_ret ?_ | refine cw_exit ?_ | refine cw_block ?_ | refine cTrue ?_ | refine cFalse ?_ | refine cT ?_ | refine cF ?_ | refine cS (fun hc => ?_) (fun hc => ?_) | refine cB (fun hc => ?_) (fun hc => ?_))
          | refine tq_ret ?_ | refine tq_exit ?_ | refine bq_n ?_ | refine bq_ret ?_ | refine bq_same ?_ | refine bq_ne rfl ?_
          | refine ow_cons ?_ | refine ow_nil ?_
          | (refine isOpK ?_; first
            | (refine isG ?_; first | refine opk_yes rfl rfl ?_ | refine opk_no rfl rfl ?_ | refine opk_no_undef rfl rfl ?_ | refine opk_g_t rfl rfl (by omega) ?_ | refine opk_g_f rfl rfl (by omega) ?_ | refine opk_g_s rfl rfl (fun hc => ?_) (fun hc => ?_) | refine opk_g_b rfl rfl (fun hc => ?_) (fun hc => ?_))
            | refine kRd ?_
            | refine kStore ?_
            | refine kStoreA ?_
            | refine kStoreR ?_
            | (refine kIdxR (fun g hg => ?_); subst hg)
            | (refine kIdxO (fun gb go hg => ?_); subst hg)
            | refine st_alloc (fun bN => ?_)
            | refine kBox (fun bN => ?_)
            | refine kBoxA (fun bN => ?_)
            | (refine st_buildSlice rfl rfl rfl rfl (fun bN => ?_))
            | (refine st_clearR rfl selA rfl (by omega) rfl rfl rfl ?_)
            | (refine st_clearR rfl selA (by omega) (by omega) rfl rfl rfl ?_))
          | refine hw_cons ?_ | refine hw_nil ?_
          | (refine isOpS ?_; first
            | (refine os_isG ?_; first | refine os_yes rfl rfl ?_ | refine os_no rfl rfl ?_ | refine os_no_undef rfl rfl ?_ | refine os_g_t rfl rfl (by omega) ?_ | refine os_g_f rfl rfl (by omega) ?_ | refine os_g_s rfl rfl (fun hc => ?_) (fun hc => ?_) | refine os_g_b rfl rfl (fun hc => ?_) (fun hc => ?_))
            | refine sRd ?_))
        rw [hp] at htm
        exact retM_ret1 selA (retV_list (rvs := [.cell 2 3, .cell 3 4, .cell 4 4]) (vs := [i6 _, .bool _, .bool _]) rfl (.cell rfl selA (.cell rfl selA (.cell rfl selA .nil))) rfl) ⟨by rw [htm]; rfl, rfl⟩ (fun _ _ h => pick2 h selA selA)
theorem timer39n : Spec Go.Proofs.Try.prog 39 #[.pointer none] [] (fun v L => v = tmV (0, false, false) ∧ L = []) := by
  refine spec_ofM (args := [.pointer none]) Go.Proofs.Try.func39 rfl rfl fun w0 hw0 => ?_
  repeat' (first
    | (
        refine cw_region (id := 0) rfl ?_
        all_goals (refine ow_cons ?_; first | refine kBox (fun bN => ?_) | refine kBoxA (fun bN => ?_))
        all_goals (refine ow_cons ?_; refine st_alloc (fun bN => ?_))
        all_goals (refine ow_cons ?_; refine st_alloc (fun bN => ?_))
        all_goals (refine ow_cons ?_; refine st_alloc (fun bN => ?_))
        all_goals refine ow_nil ?_)
    | (
        refine cw_region (id := 1) rfl ?_
        all_goals refine wLoad ?_
        all_goals refine wEql ?_
        all_goals refine wMove ?_
        all_goals (refine ow_cons ?_; first | refine gNo ?_ | refine gUn ?_ | (refine gYes ?_; refine kLoad ?_) | (refine gTf ?_; refine kLoad ?_) | refine gFf ?_ | (refine gSf (fun hc => ?_) (fun hc => ?_); rotate_left; (focus (refine kLoad ?_)); rotate_right) | (refine gBf (fun hc => ?_) (fun hc => ?_); rotate_left; (focus (refine kLoad ?_)); rotate_right))
        all_goals (refine ow_cons ?_; first | refine gNo ?_ | refine gUn ?_ | (refine gYes ?_; refine kCheck ?_) | (refine gTf ?_; refine kCheck ?_) | refine gFf ?_ | (refine gSf (fun hc => ?_) (fun hc => ?_); rotate_left; (focus (refine kCheck ?_)); rotate_right) | (refine gBf (fun hc => ?_) (fun hc => ?_); rotate_left; (focus (refine kCheck ?_)); rotate_right))
        all_goals (refine ow_cons ?_; first | refine gNo ?_ | refine gUn ?_ | (refine gYes ?_; refine kField ?_) | (refine gTf ?_; refine kField ?_) | refine gFf ?_ | (refine gSf (fun hc => ?_) (fun hc => ?_); rotate_left; (focus (refine kField ?_)); rotate_right) | (refine gBf (fun hc => ?_) (fun hc => ?_); rotate_left; (focus (refine kField ?_)); rotate_right))
        all_goals (refine ow_cons ?_; first | refine gNo ?_ | refine gUn ?_ | (refine gYes ?_; refine kLoad ?_) | (refine gTf ?_; refine kLoad ?_) | refine gFf ?_ | (refine gSf (fun hc => ?_) (fun hc => ?_); rotate_left; (focus (refine kLoad ?_)); rotate_right) | (refine gBf (fun hc => ?_) (fun hc => ?_); rotate_left; (focus (refine kLoad ?_)); rotate_right))
        all_goals (refine ow_cons ?_; first | refine gNo ?_ | refine gUn ?_ | (refine gYes ?_; refine kLen ?_) | (refine gTf ?_; refine kLen ?_) | refine gFf ?_ | (refine gSf (fun hc => ?_) (fun hc => ?_); rotate_left; (focus (refine kLen ?_)); rotate_right) | (refine gBf (fun hc => ?_) (fun hc => ?_); rotate_left; (focus (refine kLen ?_)); rotate_right))
        all_goals (refine ow_cons ?_; first | refine gNo ?_ | refine gUn ?_ | (refine gYes ?_; refine kEql ?_) | (refine gTf ?_; refine kEql ?_) | refine gFf ?_ | (refine gSf (fun hc => ?_) (fun hc => ?_); rotate_left; (focus (refine kEql ?_)); rotate_right) | (refine gBf (fun hc => ?_) (fun hc => ?_); rotate_left; (focus (refine kEql ?_)); rotate_right))
        all_goals refine wPick ?_
        all_goals refine ow_nil ?_)
    | (
        refine cw_region (id := 2) rfl ?_
        all_goals (refine ow_cons ?_; first | refine kStore ?_ | refine kStoreA ?_ | refine kStoreR ?_)
        all_goals (refine ow_cons ?_; first | refine kStore ?_ | refine kStoreA ?_ | refine kStoreR ?_)
        all_goals (refine ow_cons ?_; first | refine kStore ?_ | refine kStoreA ?_ | refine kStoreR ?_)
        all_goals refine ow_nil ?_)
    | (
        refine cw_region (id := 3) rfl ?_
        all_goals refine wLoad ?_
        all_goals refine wCheck ?_
        all_goals refine wField ?_
        all_goals refine wLoad ?_
        all_goals (refine ow_cons ?_; first | refine kIndex ?_ | (refine kIdxR (fun g hg => ?_); subst hg) | (refine kIdxO (fun gb go hg => ?_); subst hg))
        all_goals refine wLoad ?_
        all_goals (refine ow_cons ?_; refine st_alloc (fun bN => ?_))
        all_goals (refine ow_cons ?_; first | refine kStore ?_ | refine kStoreA ?_ | refine kStoreR ?_)
        all_goals refine ow_nil ?_)
    | (
        refine cw_draw (id := 4) 7 (by kernel_rfl) (by kernel_rfl) rfl ?_
        all_goals refine hField ?_
        all_goals refine hLoad ?_
        all_goals refine hLoad ?_
        all_goals refine hCheck ?_
        all_goals refine hField ?_
        all_goals refine hLoad ?_
        all_goals refine hLss ?_
        all_goals refine hw_nil ?_
        all_goals refine ow_nil ?_)
    | (
        refine cw_region (id := 7) rfl ?_
        all_goals (refine ow_cons ?_; refine st_alloc (fun bN => ?_))
        all_goals (refine ow_cons ?_; first | refine kStore ?_ | refine kStoreA ?_ | refine kStoreR ?_)
        all_goals refine ow_nil ?_)
    | (
        refine cw_region (id := 8) rfl ?_
        all_goals refine wField ?_
        all_goals refine wLoad ?_
        all_goals refine ow_nil ?_)
    | (
        refine cw_region (id := 10) rfl ?_
        all_goals (refine ow_cons ?_; first | refine kStore ?_ | refine kStoreA ?_ | refine kStoreR ?_)
        all_goals (refine ow_cons ?_; first | refine kStore ?_ | refine kStoreA ?_ | refine kStoreR ?_)
        all_goals (refine ow_cons ?_; first | refine kStore ?_ | refine kStoreA ?_ | refine kStoreR ?_)
        all_goals refine ow_nil ?_)
    | refine cw_seq ?_
    | refine tq_n ?_
    | (refine isCW ?_; first | refine cw_region rfl ?_ | refine cw_skip ?_ | refine cw_ret ?_ | refine cw_exit ?_ | refine cw_block ?_ | refine cTrue ?_ | refine cFalse ?_ | refine cT ?_ | refine cF ?_ | refine cS (fun hc => ?_) (fun hc => ?_) | refine cB (fun hc => ?_) (fun hc => ?_))
    | refine tq_ret ?_ | refine tq_exit ?_ | refine bq_n ?_ | refine bq_ret ?_ | refine bq_same ?_ | refine bq_ne rfl ?_
    | refine ow_cons ?_ | refine ow_nil ?_
    | (refine isOpK ?_; first
      | (refine isG ?_; first | refine opk_yes rfl rfl ?_ | refine opk_no rfl rfl ?_ | refine opk_no_undef rfl rfl ?_ | refine opk_g_t rfl rfl (by omega) ?_ | refine opk_g_f rfl rfl (by omega) ?_ | refine opk_g_s rfl rfl (fun hc => ?_) (fun hc => ?_) | refine opk_g_b rfl rfl (fun hc => ?_) (fun hc => ?_))
      | refine kRd ?_
      | refine kStore ?_
      | refine kStoreA ?_
      | refine kStoreR ?_
      | (refine kIdxR (fun g hg => ?_); subst hg)
      | (refine kIdxO (fun gb go hg => ?_); subst hg)
      | refine st_alloc (fun bN => ?_)
      | refine kBox (fun bN => ?_)
      | refine kBoxA (fun bN => ?_)
      | (refine st_buildSlice rfl rfl rfl rfl (fun bN => ?_))
      | (refine st_clearR rfl selA rfl (by omega) rfl rfl rfl ?_)
      | (refine st_clearR rfl selA (by omega) (by omega) rfl rfl rfl ?_))
    | refine hw_cons ?_ | refine hw_nil ?_
    | (refine isOpS ?_; first
      | (refine os_isG ?_; first | refine os_yes rfl rfl ?_ | refine os_no rfl rfl ?_ | refine os_no_undef rfl rfl ?_ | refine os_g_t rfl rfl (by omega) ?_ | refine os_g_f rfl rfl (by omega) ?_ | refine os_g_s rfl rfl (fun hc => ?_) (fun hc => ?_) | refine os_g_b rfl rfl (fun hc => ?_) (fun hc => ?_))
      | refine sRd ?_))
  exact retM_ret (retV_list (rvs := [.cell 2 3, .cell 3 4, .cell 4 4]) (vs := [i6 _, .bool _, .bool _]) rfl (.cell rfl selA (.cell rfl selA (.cell rfl selA .nil))) rfl) ⟨rfl, rfl⟩ (fun _ _ h => pick0 h)
theorem timer16n : Spec Go.Proofs.Try.prog 16 #[.pointer none] [] (fun v L => v = .tuple #[i6 0, .bool false] ∧ L = []) := by
  refine spec_of (args := [.pointer none]) Go.Proofs.Try.func16 rfl rfl fun w0 hw0 => ?_
  repeat' (first
    | (
        refine cw_region (id := 0) rfl ?_
        all_goals refine wAssign ?_
        all_goals refine wAssign ?_
        all_goals refine ow_nil ?_)
    | (
        refine cw_region (id := 1) rfl ?_
        all_goals refine wMove ?_
        all_goals (refine ow_cons ?_; (refine st_call (av := [_]) rfl timer39n (.nil _) ?_; rintro v L' ⟨rfl, rfl⟩))
        all_goals refine wMove ?_
        all_goals refine wExtract ?_
        all_goals refine wExtract ?_
        all_goals refine wExtract ?_
        all_goals refine wAssign ?_
        all_goals refine wAssign ?_
        all_goals refine wAssign ?_
        all_goals refine ow_nil ?_)
    | (
        refine cw_region (id := 2) rfl ?_
        all_goals refine wMove ?_
        all_goals refine wMove ?_
        all_goals refine wAssign ?_
        all_goals refine wAssign ?_
        all_goals refine ow_nil ?_)
    | refine cw_seq ?_
    | refine tq_n ?_
    | refine cw_skip ?_ | refine cw_ret ?_ | refine cw_exit ?_ | refine cw_block ?_ | refine cTrue ?_ | refine cFalse ?_ | refine cT ?_ | refine cF ?_ | refine cS (fun hc => ?_) (fun hc => ?_) | refine cB (fun hc => ?_) (fun hc => ?_)
    | refine tq_ret ?_ | refine tq_exit ?_ | refine bq_n ?_ | refine bq_ret ?_ | refine bq_same ?_ | refine bq_ne rfl ?_)
  exact retQ_ret (retV_tmps [2, 3] rfl rfl) ⟨rfl, rfl⟩ (fun _ _ h => h)
theorem timer16 (b : Nat) (s : St) (a : Option Nat) (cap : Nat) (h0 : 0 ≤ s.smooth ∧ s.smooth ≤ 1099511627776) (h1 : 0 ≤ s.vary ∧ s.vary ≤ 1099511627776) (h2 : 0 ≤ s.tries ∧ s.tries ≤ 5) (hla : 0 ≤ s.last ∧ s.last ≤ 1099511627776)
    (hl : s.waits.length ≤ 1099511627779) (hq : ∀ q ∈ s.waits, 0 ≤ q.at_ ∧ q.at_ ≤ 1099511627776) :
    Spec Go.Proofs.Try.prog 16 #[ptr b] (stR b s a cap) (fun v L => v = .tuple #[i6 s.timer.1, .bool s.timer.2.1] ∧ L = stR b s a cap) := by
  refine spec_of (args := [ptr b]) Go.Proofs.Try.func16 rfl rfl fun w0 hw0 => ?_
  unfold stR
  repeat' (first
    | (
        refine cw_region (id := 0) rfl ?_
        all_goals refine wAssign ?_
        all_goals refine wAssign ?_
        all_goals refine ow_nil ?_)
    | (
        refine cw_region (id := 1) rfl ?_
        all_goals refine wMove ?_
        all_goals (refine ow_cons ?_; (refine st_callA (av := [_]) rfl (timer39 b s a cap h0 h1 h2 hla hl hq) ?_; rintro v L' ⟨rfl, rfl⟩))
        all_goals refine wMove ?_
        all_goals refine wExtract ?_
        all_goals refine wExtract ?_
        all_goals refine wExtract ?_
        all_goals refine wAssign ?_
        all_goals refine wAssign ?_
        all_goals refine wAssign ?_
        all_goals refine ow_nil ?_)
    | (
        refine cw_region (id := 2) rfl ?_
        all_goals refine wMove ?_
        all_goals refine wMove ?_
        all_goals refine wAssign ?_
        all_goals refine wAssign ?_
        all_goals refine ow_nil ?_)
    | refine cw_seq ?_
    | refine tq_n ?_
    | refine cw_skip ?_ | refine cw_ret ?_ | refine cw_exit ?_ | refine cw_block ?_ | refine cTrue ?_ | refine cFalse ?_ | refine cT ?_ | refine cF ?_ | refine cS (fun hc => ?_) (fun hc => ?_) | refine cB (fun hc => ?_) (fun hc => ?_)
    | refine tq_ret ?_ | refine tq_exit ?_ | refine bq_n ?_ | refine bq_ret ?_ | refine bq_same ?_ | refine bq_ne rfl ?_)
  exact retQ_ret (retV_tmps [2, 3] rfl rfl) ⟨rfl, rfl⟩ (fun _ _ h => h)
end Go.Proofs.Ytomaldjedncjoaa.E
