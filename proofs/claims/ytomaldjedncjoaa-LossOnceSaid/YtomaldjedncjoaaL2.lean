/-
The layer 'loss': the predicates that are handed on, and what goes through a list by them.
Conditions: each is said with its statement.
-/
import Derived.Test.YtomaldjedncjoaaL1
set_option linter.unusedVariables false
namespace Go.Proofs.Ytomaldjedncjoaa.E
open Go
set_option maxRecDepth 100000
set_option maxHeartbeats 4000000
structure Sp where
  first : Int
  last : Int
def encSp (p : Sp) : List Value := [.int .i64 p.first, .int .i64 p.last]
def tSp : Ty Sp := ⟨2, encSp, fun _ => rfl, fun x v h => by simp [encSp] at h; rcases h with h | h <;> subst h <;> rfl⟩
def idxOf {α : Type} (xs : List α) (p : α → Bool) : Int := match xs.findIdx? p with | some i => i | none => -1
theorem idxOf_at {α : Type} {xs : List α} {p : α → Bool} {i : Nat} {x : α} (h : xs[i]? = some x) (hp : p x = true) (hn : ∀ j x', j < i → xs[j]? = some x' → p x' = false) : idxOf xs p = i := by
  have : xs.findIdx? p = some i := by
    obtain ⟨hi, hx⟩ := List.getElem?_eq_some_iff.1 h
    rw [List.findIdx?_eq_some_iff_getElem]
    refine ⟨hi, by rw [hx]; exact hp, fun j hj => ?_⟩
    have := hn j xs[j] hj (List.getElem?_eq_getElem (by omega))
    simp [this]
  simp [idxOf, this]
theorem idxOf_none {α : Type} {xs : List α} {p : α → Bool} (hn : ∀ (j : Nat) (x' : α), xs[j]? = some x' → p x' = false) : idxOf xs p = -1 := by
  have : xs.findIdx? p = none := by
    rw [List.findIdx?_eq_none_iff]
    intro x hx
    obtain ⟨j, hj⟩ := List.mem_iff_getElem?.1 hx
    exact hn j x hj
  simp [idxOf, this]
theorem idxOf_any {α : Type} (xs : List α) (p : α → Bool) : decide (0 ≤ idxOf xs p) = xs.any p := by
  unfold idxOf
  cases h : xs.findIdx? p with
  | none =>
    rw [List.findIdx?_eq_none_iff] at h
    have : xs.any p = false := by simpa using h
    rw [this]; decide
  | some i =>
    have h2 : xs.any p = true := by
      have := List.findIdx?_isSome (xs := xs) (p := p)
      rw [h] at this; simpa using this.symm
    rw [h2]; simp
theorem index48 {fid : FuncId} [Fnc Go.Proofs.Try.prog fid] (caps : List Value) (F : Heap) (ad : Option Addr) (cap : Nat) (xs : List Sp) (p : Sp → Bool) (hx : xs.length ≤ 1152921504606846976)
    (hp : ∀ x ∈ xs, Spec Go.Proofs.Try.prog fid ([Value.agg (encSp x).toArray] ++ caps).toArray F (fun v L => v = .bool (p x) ∧ L = F)) :
    Spec Go.Proofs.Try.prog 48 #[.slice ad xs.length cap, .func (.func fid) #[] caps.toArray] (F ++ [ro ad tSp xs]) (fun v L => v = i6 (idxOf xs p) ∧ L = F ++ [ro ad tSp xs]) := by
  refine spec_of (args := [.slice ad xs.length cap, .func (.func fid) #[] caps.toArray]) Go.Proofs.Try.func48 rfl rfl fun w0 hw0 => ?_
  repeat' (first
    | (
        refine cw_region (id := 0) rfl ?_
        all_goals refine wAssign ?_
        all_goals refine ow_nil ?_)
    | (
        refine cw_region (id := 1) rfl ?_
        all_goals refine wMove ?_
        all_goals refine wLen ?_
        all_goals refine wMove ?_
        all_goals refine ow_nil ?_)
    | (
        refine cw_region (id := 2) rfl ?_
        all_goals refine wLss ?_
        all_goals refine ow_nil ?_)
    | (
        refine cw_region (id := 3) rfl ?_
        all_goals refine wMove ?_
        all_goals refine wAssign ?_
        all_goals refine ow_nil ?_)
    | (
        refine cw_region (id := 5) rfl ?_
        all_goals refine wMove ?_
        all_goals refine wAssign ?_
        all_goals refine ow_nil ?_)
    | (
        refine cw_region (id := 6) rfl ?_
        all_goals refine wAdd ?_
        all_goals refine wMove ?_
        all_goals refine ow_nil ?_)
    | (
        refine cw_region (id := 7) rfl ?_
        all_goals refine wAssign ?_
        all_goals refine ow_nil ?_)
    | refine cw_seq ?_
    | refine tq_n ?_
    | (refine isCW ?_; first | refine cw_region rfl ?_ | refine cw_skip ?_ | refine cw_ret ?_ | refine cw_exit ?_ | refine cw_block ?_ | refine cTrue ?_ | refine cFalse ?_ | refine cT ?_ | refine cF ?_ | refine cS (fun hc => ?_) (fun hc => ?_) | refine cB (fun hc => ?_) (fun hc => ?_))
    | refine tq_ret ?_ | refine tq_exit ?_ | refine bq_n ?_ | refine bq_ret ?_ | refine bq_same ?_ | refine bq_ne rfl ?_
    | refine ow_cons ?_ | refine ow_nil ?_
    | (refine isOpK ?_; first
      | (refine isG ?_; first | refine opk_yes rfl rfl ?_ | refine opk_no rfl rfl ?_ | refine opk_no_undef rfl rfl ?_ | refine opk_g_t rfl rfl (by omega) ?_ | refine opk_g_f rfl rfl (by omega) ?_ | refine opk_g_s rfl rfl (fun hc => ?_) (fun hc => ?_) | refine opk_g_b rfl rfl (fun hc => ?_) (fun hc => ?_))
      | refine kRd ?_
      | refine kStore ?_
      | refine kStoreA ?_
      | refine kStoreR ?_
      | (refine kIdxR (fun g hg => ?_); subst hg)
      | (refine kIdxO (fun gb go hg => ?_); subst hg)
      | refine st_alloc (fun bN => ?_)
      | refine kBox (fun bN => ?_)
      | refine kBoxA (fun bN => ?_)
      | (refine st_buildSlice rfl rfl rfl rfl (fun bN => ?_))
      | (refine st_clearR rfl selA rfl (by omega) rfl rfl rfl ?_)
      | (refine st_clearR rfl selA (by omega) (by omega) rfl rfl rfl ?_))
    | refine hw_cons ?_ | refine hw_nil ?_
    | (refine isOpS ?_; first
      | (refine os_isG ?_; first | refine os_yes rfl rfl ?_ | refine os_no rfl rfl ?_ | refine os_no_undef rfl rfl ?_ | refine os_g_t rfl rfl (by omega) ?_ | refine os_g_f rfl rfl (by omega) ?_ | refine os_g_s rfl rfl (fun hc => ?_) (fun hc => ?_) | refine os_g_b rfl rfl (fun hc => ?_) (fun hc => ?_))
      | refine sRd ?_))
  refine cw_rounds (S := fun i : Nat => [(0, .slice ad xs.length cap), (1, .func (.func fid) #[] caps.toArray), (7, .int .i64 (xs.length : Nat)), (8, .int .i64 (i : Nat))]) (H := fun _ => F ++ [ro ad tSp xs])
    (V := fun i => i ≤ xs.length ∧ ∀ j x', j < i → xs[j]? = some x' → p x' = false) (μ := fun i => xs.length - i) 0 ⟨rfl, rfl, rfl, rfl, trivial⟩ ⟨by omega, fun j x' h => by omega⟩ (fun _ h => h) ?_
  rintro i e' ⟨hi, hn⟩
  rcases Nat.lt_or_ge i xs.length with hlt | hge
  · obtain ⟨x, hxi⟩ : ∃ x, xs[i]? = some x := ⟨_, List.getElem?_eq_getElem hlt⟩
    dsimp only [upds]
    repeat' (first
      | (
          refine cw_region (id := 0) rfl ?_
          all_goals refine wAssign ?_
          all_goals refine ow_nil ?_)
      | (
          refine cw_region (id := 1) rfl ?_
          all_goals refine wMove ?_
          all_goals refine wLen ?_
          all_goals refine wMove ?_
          all_goals refine ow_nil ?_)
      | (
          refine cw_region (id := 2) rfl ?_
          all_goals refine wLss ?_
          all_goals refine ow_nil ?_)
      | (
          refine cw_region (id := 3) rfl ?_
          all_goals refine wMove ?_
          all_goals refine wAssign ?_
          all_goals refine ow_nil ?_)
      | (
          refine cw_region (id := 4) rfl ?_
          all_goals refine wMove ?_
          all_goals refine wMove ?_
          all_goals refine wMove ?_
          all_goals (refine ow_cons ?_; first | refine kIndex ?_ | (refine kIdxR (fun g hg => ?_); subst hg) | (refine kIdxO (fun gb go hg => ?_); subst hg))
          all_goals refine wLoad ?_
          all_goals (refine ow_cons ?_; (refine st_callV (av := [_]) rfl rfl (hp x (List.mem_of_getElem? hxi)) (selL_pre _ _) ?_; rintro v L' ⟨rfl, rfl⟩))
          all_goals refine ow_nil ?_)
      | (
          refine cw_region (id := 5) rfl ?_
          all_goals refine wMove ?_
          all_goals refine wAssign ?_
          all_goals refine ow_nil ?_)
      | (
          refine cw_region (id := 6) rfl ?_
          all_goals refine wAdd ?_
          all_goals refine wMove ?_
          all_goals refine ow_nil ?_)
      | (
          refine cw_region (id := 7) rfl ?_
          all_goals refine wAssign ?_
          all_goals refine ow_nil ?_)
      | refine cw_seq ?_
      | refine tq_n ?_
      | refine cw_skip ?_ | refine cw_ret ?_ | refine cw_exit ?_ | refine cw_block ?_ | refine cTrue ?_ | refine cFalse ?_ | refine cT ?_ | refine cF ?_ | refine cS (fun hc => ?_) (fun hc => ?_) | refine cB (fun hc => ?_) (fun hc => ?_)
      | refine tq_ret ?_ | refine tq_exit ?_ | refine bq_n ?_ | refine bq_ret ?_ | refine bq_same ?_ | refine bq_ne rfl ?_)
    · exact retQ_ret (retV_tmps [4] rfl rfl) ⟨by rw [idxOf_at hxi hc hn]; rfl, rfl⟩ (fun _ _ h => h)
    · refine lp_end (i + 1) ⟨rfl, rfl, rfl, rfl, trivial⟩ ⟨by omega, fun j x' hj hx' => ?_⟩ (by omega) (fun _ h => h)
      rcases Nat.lt_succ_iff_lt_or_eq.1 hj with hj | rfl
      · exact hn j x' hj hx'
      · rw [hxi] at hx'; injection hx' with hx'; subst hx'; exact hc
  · dsimp only [upds]
    repeat' (first
      | (
          refine cw_region (id := 0) rfl ?_
          all_goals refine wAssign ?_
          all_goals refine ow_nil ?_)
      | (
          refine cw_region (id := 1) rfl ?_
          all_goals refine wMove ?_
          all_goals refine wLen ?_
          all_goals refine wMove ?_
          all_goals refine ow_nil ?_)
      | (
          refine cw_region (id := 2) rfl ?_
          all_goals refine wLss ?_
          all_goals refine ow_nil ?_)
      | (
          refine cw_region (id := 3) rfl ?_
          all_goals refine wMove ?_
          all_goals refine wAssign ?_
          all_goals refine ow_nil ?_)
      | (
          refine cw_region (id := 5) rfl ?_
          all_goals refine wMove ?_
          all_goals refine wAssign ?_
          all_goals refine ow_nil ?_)
      | (
          refine cw_region (id := 6) rfl ?_
          all_goals refine wAdd ?_
          all_goals refine wMove ?_
          all_goals refine ow_nil ?_)
      | (
          refine cw_region (id := 7) rfl ?_
          all_goals refine wAssign ?_
          all_goals refine ow_nil ?_)
      | refine cw_seq ?_
      | refine tq_n ?_
      | (refine isCW ?_; first | refine cw_region rfl ?_ | refine cw_skip ?_ | refine cw_ret ?_ | refine cw_exit ?_ | refine cw_block ?_ | refine cTrue ?_ | refine cFalse ?_ | refine cT ?_ | refine cF ?_ | refine cS (fun hc => ?_) (fun hc => ?_) | refine cB (fun hc => ?_) (fun hc => ?_))
      | refine tq_ret ?_ | refine tq_exit ?_ | refine bq_n ?_ | refine bq_ret ?_ | refine bq_same ?_ | refine bq_ne rfl ?_
      | refine ow_cons ?_ | refine ow_nil ?_
      | (refine isOpK ?_; first
        | (refine isG ?_; first | refine opk_yes rfl rfl ?_ | refine opk_no rfl rfl ?_ | refine opk_no_undef rfl rfl ?_ | refine opk_g_t rfl rfl (by omega) ?_ | refine opk_g_f rfl rfl (by omega) ?_ | refine opk_g_s rfl rfl (fun hc => ?_) (fun hc => ?_) | refine opk_g_b rfl rfl (fun hc => ?_) (fun hc => ?_))
        | refine kRd ?_
        | refine kStore ?_
        | refine kStoreA ?_
        | refine kStoreR ?_
        | (refine kIdxR (fun g hg => ?_); subst hg)
        | (refine kIdxO (fun gb go hg => ?_); subst hg)
        | refine st_alloc (fun bN => ?_)
        | refine kBox (fun bN => ?_)
        | refine kBoxA (fun bN => ?_)
        | (refine st_buildSlice rfl rfl rfl rfl (fun bN => ?_))
        | (refine st_clearR rfl selA rfl (by omega) rfl rfl rfl ?_)
        | (refine st_clearR rfl selA (by omega) (by omega) rfl rfl rfl ?_))
      | refine hw_cons ?_ | refine hw_nil ?_
      | (refine isOpS ?_; first
        | (refine os_isG ?_; first | refine os_yes rfl rfl ?_ | refine os_no rfl rfl ?_ | refine os_no_undef rfl rfl ?_ | refine os_g_t rfl rfl (by omega) ?_ | refine os_g_f rfl rfl (by omega) ?_ | refine os_g_s rfl rfl (fun hc => ?_) (fun hc => ?_) | refine os_g_b rfl rfl (fun hc => ?_) (fun hc => ?_))
        | refine sRd ?_))
    exact retQ_ret (retV_tmps [4] rfl rfl) ⟨by rw [idxOf_none (fun j x' hj => hn j x' (by have := (List.getElem?_eq_some_iff.1 hj).1; omega) hj)]; rfl, rfl⟩ (fun _ _ h => h)
theorem index49 {fid : FuncId} [Fnc Go.Proofs.Try.prog fid] (caps : List Value) (F : Heap) (ad : Option Addr) (cap : Nat) (xs : List Pk) (p : Pk → Bool) (hx : xs.length ≤ 1152921504606846976)
    (hp : ∀ x ∈ xs, Spec Go.Proofs.Try.prog fid ([Value.agg (encPk x).toArray] ++ caps).toArray F (fun v L => v = .bool (p x) ∧ L = F)) :
    Spec Go.Proofs.Try.prog 49 #[.slice ad xs.length cap, .func (.func fid) #[] caps.toArray] (F ++ [ro ad tPk xs]) (fun v L => v = i6 (idxOf xs p) ∧ L = F ++ [ro ad tPk xs]) := by
  refine spec_of (args := [.slice ad xs.length cap, .func (.func fid) #[] caps.toArray]) Go.Proofs.Try.func49 rfl rfl fun w0 hw0 => ?_
  repeat' (first
    | (
        refine cw_region (id := 0) rfl ?_
        all_goals refine wAssign ?_
        all_goals refine ow_nil ?_)
    | (
        refine cw_region (id := 1) rfl ?_
        all_goals refine wMove ?_
        all_goals refine wLen ?_
        all_goals refine wMove ?_
        all_goals refine ow_nil ?_)
    | (
        refine cw_region (id := 2) rfl ?_
        all_goals refine wLss ?_
        all_goals refine ow_nil ?_)
    | (
        refine cw_region (id := 3) rfl ?_
        all_goals refine wMove ?_
        all_goals refine wAssign ?_
        all_goals refine ow_nil ?_)
    | (
        refine cw_region (id := 5) rfl ?_
        all_goals refine wMove ?_
        all_goals refine wAssign ?_
        all_goals refine ow_nil ?_)
    | (
        refine cw_region (id := 6) rfl ?_
        all_goals refine wAdd ?_
        all_goals refine wMove ?_
        all_goals refine ow_nil ?_)
    | (
        refine cw_region (id := 7) rfl ?_
        all_goals refine wAssign ?_
        all_goals refine ow_nil ?_)
    | refine cw_seq ?_
    | refine tq_n ?_
    | (refine isCW ?_; first | refine cw_region rfl ?_ | refine cw_skip ?_ | refine cw_ret ?_ | refine cw_exit ?_ | refine cw_block ?_ | refine cTrue ?_ | refine cFalse ?_ | refine cT ?_ | refine cF ?_ | refine cS (fun hc => ?_) (fun hc => ?_) | refine cB (fun hc => ?_) (fun hc => ?_))
    | refine tq_ret ?_ | refine tq_exit ?_ | refine bq_n ?_ | refine bq_ret ?_ | refine bq_same ?_ | refine bq_ne rfl ?_
    | refine ow_cons ?_ | refine ow_nil ?_
    | (refine isOpK ?_; first
      | (refine isG ?_; first | refine opk_yes rfl rfl ?_ | refine opk_no rfl rfl ?_ | refine opk_no_undef rfl rfl ?_ | refine opk_g_t rfl rfl (by omega) ?_ | refine opk_g_f rfl rfl (by omega) ?_ | refine opk_g_s rfl rfl (fun hc => ?_) (fun hc => ?_) | refine opk_g_b rfl rfl (fun hc => ?_) (fun hc => ?_))
      | refine kRd ?_
      | refine kStore ?_
      | refine kStoreA ?_
      | refine kStoreR ?_
      | (refine kIdxR (fun g hg => ?_); subst hg)
      | (refine kIdxO (fun gb go hg => ?_); subst hg)
      | refine st_alloc (fun bN => ?_)
      | refine kBox (fun bN => ?_)
      | refine kBoxA (fun bN => ?_)
      | (refine st_buildSlice rfl rfl rfl rfl (fun bN => ?_))
      | (refine st_clearR rfl selA rfl (by omega) rfl rfl rfl ?_)
      | (refine st_clearR rfl selA (by omega) (by omega) rfl rfl rfl ?_))
    | refine hw_cons ?_ | refine hw_nil ?_
    | (refine isOpS ?_; first
      | (refine os_isG ?_; first | refine os_yes rfl rfl ?_ | refine os_no rfl rfl ?_ | refine os_no_undef rfl rfl ?_ | refine os_g_t rfl rfl (by omega) ?_ | refine os_g_f rfl rfl (by omega) ?_ | refine os_g_s rfl rfl (fun hc => ?_) (fun hc => ?_) | refine os_g_b rfl rfl (fun hc => ?_) (fun hc => ?_))
      | refine sRd ?_))
  refine cw_rounds (S := fun i : Nat => [(0, .slice ad xs.length cap), (1, .func (.func fid) #[] caps.toArray), (7, .int .i64 (xs.length : Nat)), (8, .int .i64 (i : Nat))]) (H := fun _ => F ++ [ro ad tPk xs])
    (V := fun i => i ≤ xs.length ∧ ∀ j x', j < i → xs[j]? = some x' → p x' = false) (μ := fun i => xs.length - i) 0 ⟨rfl, rfl, rfl, rfl, trivial⟩ ⟨by omega, fun j x' h => by omega⟩ (fun _ h => h) ?_
  rintro i e' ⟨hi, hn⟩
  rcases Nat.lt_or_ge i xs.length with hlt | hge
  · obtain ⟨x, hxi⟩ : ∃ x, xs[i]? = some x := ⟨_, List.getElem?_eq_getElem hlt⟩
    dsimp only [upds]
    repeat' (first
      | (
          refine cw_region (id := 0) rfl ?_
          all_goals refine wAssign ?_
          all_goals refine ow_nil ?_)
      | (
          refine cw_region (id := 1) rfl ?_
          all_goals refine wMove ?_
          all_goals refine wLen ?_
          all_goals refine wMove ?_
          all_goals refine ow_nil ?_)
      | (
          refine cw_region (id := 2) rfl ?_
          all_goals refine wLss ?_
          all_goals refine ow_nil ?_)
      | (
          refine cw_region (id := 3) rfl ?_
          all_goals refine wMove ?_
          all_goals refine wAssign ?_
          all_goals refine ow_nil ?_)
      | (
          refine cw_region (id := 4) rfl ?_
          all_goals refine wMove ?_
          all_goals refine wMove ?_
          all_goals refine wMove ?_
          all_goals (refine ow_cons ?_; first | refine kIndex ?_ | (refine kIdxR (fun g hg => ?_); subst hg) | (refine kIdxO (fun gb go hg => ?_); subst hg))
          all_goals refine wLoad ?_
          all_goals (refine ow_cons ?_; (refine st_callV (av := [_]) rfl rfl (hp x (List.mem_of_getElem? hxi)) (selL_pre _ _) ?_; rintro v L' ⟨rfl, rfl⟩))
          all_goals refine ow_nil ?_)
      | (
          refine cw_region (id := 5) rfl ?_
          all_goals refine wMove ?_
          all_goals refine wAssign ?_
          all_goals refine ow_nil ?_)
      | (
          refine cw_region (id := 6) rfl ?_
          all_goals refine wAdd ?_
          all_goals refine wMove ?_
          all_goals refine ow_nil ?_)
      | (
          refine cw_region (id := 7) rfl ?_
          all_goals refine wAssign ?_
          all_goals refine ow_nil ?_)
      | refine cw_seq ?_
      | refine tq_n ?_
      | refine cw_skip ?_ | refine cw_ret ?_ | refine cw_exit ?_ | refine cw_block ?_ | refine cTrue ?_ | refine cFalse ?_ | refine cT ?_ | refine cF ?_ | refine cS (fun hc => ?_) (fun hc => ?_) | refine cB (fun hc => ?_) (fun hc => ?_)
      | refine tq_ret ?_ | refine tq_exit ?_ | refine bq_n ?_ | refine bq_ret ?_ | refine bq_same ?_ | refine bq_ne rfl ?_)
    · exact retQ_ret (retV_tmps [4] rfl rfl) ⟨by rw [idxOf_at hxi hc hn]; rfl, rfl⟩ (fun _ _ h => h)
    · refine lp_end (i + 1) ⟨rfl, rfl, rfl, rfl, trivial⟩ ⟨by omega, fun j x' hj hx' => ?_⟩ (by omega) (fun _ h => h)
      rcases Nat.lt_succ_iff_lt_or_eq.1 hj with hj | rfl
      · exact hn j x' hj hx'
      · rw [hxi] at hx'; injection hx' with hx'; subst hx'; exact hc
  · dsimp only [upds]
    repeat' (first
      | (
          refine cw_region (id := 0) rfl ?_
          all_goals refine wAssign ?_
          all_goals refine ow_nil ?_)
      | (
          refine cw_region (id := 1) rfl ?_
          all_goals refine wMove ?_
          all_goals refine wLen ?_
          all_goals refine wMove ?_
          all_goals refine ow_nil ?_)
      | (
          refine cw_region (id := 2) rfl ?_
          all_goals refine wLss ?_
          all_goals refine ow_nil ?_)
      | (
          refine cw_region (id := 3) rfl ?_
          all_goals refine wMove ?_
          all_goals refine wAssign ?_
          all_goals refine ow_nil ?_)
      | (
          refine cw_region (id := 5) rfl ?_
          all_goals refine wMove ?_
          all_goals refine wAssign ?_
          all_goals refine ow_nil ?_)
      | (
          refine cw_region (id := 6) rfl ?_
          all_goals refine wAdd ?_
          all_goals refine wMove ?_
          all_goals refine ow_nil ?_)
      | (
          refine cw_region (id := 7) rfl ?_
          all_goals refine wAssign ?_
          all_goals refine ow_nil ?_)
      | refine cw_seq ?_
      | refine tq_n ?_
      | (refine isCW ?_; first | refine cw_region rfl ?_ | refine cw_skip ?_ | refine cw_ret ?_ | refine cw_exit ?_ | refine cw_block ?_ | refine cTrue ?_ | refine cFalse ?_ | refine cT ?_ | refine cF ?_ | refine cS (fun hc => ?_) (fun hc => ?_) | refine cB (fun hc => ?_) (fun hc => ?_))
      | refine tq_ret ?_ | refine tq_exit ?_ | refine bq_n ?_ | refine bq_ret ?_ | refine bq_same ?_ | refine bq_ne rfl ?_
      | refine ow_cons ?_ | refine ow_nil ?_
      | (refine isOpK ?_; first
        | (refine isG ?_; first | refine opk_yes rfl rfl ?_ | refine opk_no rfl rfl ?_ | refine opk_no_undef rfl rfl ?_ | refine opk_g_t rfl rfl (by omega) ?_ | refine opk_g_f rfl rfl (by omega) ?_ | refine opk_g_s rfl rfl (fun hc => ?_) (fun hc => ?_) | refine opk_g_b rfl rfl (fun hc => ?_) (fun hc => ?_))
        | refine kRd ?_
        | refine kStore ?_
        | refine kStoreA ?_
        | refine kStoreR ?_
        | (refine kIdxR (fun g hg => ?_); subst hg)
        | (refine kIdxO (fun gb go hg => ?_); subst hg)
        | refine st_alloc (fun bN => ?_)
        | refine kBox (fun bN => ?_)
        | refine kBoxA (fun bN => ?_)
        | (refine st_buildSlice rfl rfl rfl rfl (fun bN => ?_))
        | (refine st_clearR rfl selA rfl (by omega) rfl rfl rfl ?_)
        | (refine st_clearR rfl selA (by omega) (by omega) rfl rfl rfl ?_))
      | refine hw_cons ?_ | refine hw_nil ?_
      | (refine isOpS ?_; first
        | (refine os_isG ?_; first | refine os_yes rfl rfl ?_ | refine os_no rfl rfl ?_ | refine os_no_undef rfl rfl ?_ | refine os_g_t rfl rfl (by omega) ?_ | refine os_g_f rfl rfl (by omega) ?_ | refine os_g_s rfl rfl (fun hc => ?_) (fun hc => ?_) | refine os_g_b rfl rfl (fun hc => ?_) (fun hc => ?_))
        | refine sRd ?_))
    exact retQ_ret (retV_tmps [4] rfl rfl) ⟨by rw [idxOf_none (fun j x' hj => hn j x' (by have := (List.getElem?_eq_some_iff.1 hj).1; omega) hj)]; rfl, rfl⟩ (fun _ _ h => h)
theorem contains31 {fid : FuncId} [Fnc Go.Proofs.Try.prog fid] (caps : List Value) (F : Heap) (ad : Option Addr) (cap : Nat) (xs : List Sp) (p : Sp → Bool) (hx : xs.length ≤ 1152921504606846976)
    (hp : ∀ x ∈ xs, Spec Go.Proofs.Try.prog fid ([Value.agg (encSp x).toArray] ++ caps).toArray F (fun v L => v = .bool (p x) ∧ L = F)) :
    Spec Go.Proofs.Try.prog 31 #[.slice ad xs.length cap, .func (.func fid) #[] caps.toArray] (F ++ [ro ad tSp xs]) (fun v L => v = .bool (xs.any p) ∧ L = F ++ [ro ad tSp xs]) := by
  refine spec_of (args := [.slice ad xs.length cap, .func (.func fid) #[] caps.toArray]) Go.Proofs.Try.func31 rfl rfl fun w0 hw0 => ?_
  repeat' (first
    | (
        refine cw_region (id := 0) rfl ?_
        all_goals refine wAssign ?_
        all_goals refine ow_nil ?_)
    | (
        refine cw_region (id := 1) rfl ?_
        all_goals refine wMove ?_
        all_goals refine wMove ?_
        all_goals (refine ow_cons ?_; (refine st_call (av := [_, _]) rfl (index48 caps F ad cap xs p hx hp) (selL_all _) ?_; rintro v L' ⟨rfl, rfl⟩))
        all_goals refine wGeq ?_
        all_goals refine wAssign ?_
        all_goals refine ow_nil ?_)
    | refine cw_seq ?_
    | refine tq_n ?_
    | refine cw_skip ?_ | refine cw_ret ?_ | refine cw_exit ?_ | refine cw_block ?_ | refine cTrue ?_ | refine cFalse ?_ | refine cT ?_ | refine cF ?_ | refine cS (fun hc => ?_) (fun hc => ?_) | refine cB (fun hc => ?_) (fun hc => ?_)
    | refine tq_ret ?_ | refine tq_exit ?_ | refine bq_n ?_ | refine bq_ret ?_ | refine bq_same ?_ | refine bq_ne rfl ?_)
  exact retQ_ret (retV_tmps [4] rfl rfl) ⟨congrArg Value.bool (idxOf_any xs p), by simp⟩ (fun _ _ h => h)
theorem contains33 {fid : FuncId} [Fnc Go.Proofs.Try.prog fid] (caps : List Value) (F : Heap) (ad : Option Addr) (cap : Nat) (xs : List Pk) (p : Pk → Bool) (hx : xs.length ≤ 1152921504606846976)
    (hp : ∀ x ∈ xs, Spec Go.Proofs.Try.prog fid ([Value.agg (encPk x).toArray] ++ caps).toArray F (fun v L => v = .bool (p x) ∧ L = F)) :
    Spec Go.Proofs.Try.prog 33 #[.slice ad xs.length cap, .func (.func fid) #[] caps.toArray] (F ++ [ro ad tPk xs]) (fun v L => v = .bool (xs.any p) ∧ L = F ++ [ro ad tPk xs]) := by
  refine spec_of (args := [.slice ad xs.length cap, .func (.func fid) #[] caps.toArray]) Go.Proofs.Try.func33 rfl rfl fun w0 hw0 => ?_
  repeat' (first
    | (
        refine cw_region (id := 0) rfl ?_
        all_goals refine wAssign ?_
        all_goals refine ow_nil ?_)
    | (
        refine cw_region (id := 1) rfl ?_
        all_goals refine wMove ?_
        all_goals refine wMove ?_
        all_goals (refine ow_cons ?_; (refine st_call (av := [_, _]) rfl (index49 caps F ad cap xs p hx hp) (selL_all _) ?_; rintro v L' ⟨rfl, rfl⟩))
        all_goals refine wGeq ?_
        all_goals refine wAssign ?_
        all_goals refine ow_nil ?_)
    | refine cw_seq ?_
    | refine tq_n ?_
    | refine cw_skip ?_ | refine cw_ret ?_ | refine cw_exit ?_ | refine cw_block ?_ | refine cTrue ?_ | refine cFalse ?_ | refine cT ?_ | refine cF ?_ | refine cS (fun hc => ?_) (fun hc => ?_) | refine cB (fun hc => ?_) (fun hc => ?_)
    | refine tq_ret ?_ | refine tq_exit ?_ | refine bq_n ?_ | refine bq_ret ?_ | refine bq_same ?_ | refine bq_ne rfl ?_)
  exact retQ_ret (retV_tmps [4] rfl rfl) ⟨congrArg Value.bool (idxOf_any xs p), by simp⟩ (fun _ _ h => h)

theorem check44 (x : Sp) : Spec Go.Proofs.Try.prog 44 #[.agg (encSp x).toArray] [] (fun v L => v = .bool (decide (x.first > x.last ∨ x.first < 0)) ∧ L = []) := by
  refine spec_of (args := [.agg (encSp x).toArray]) Go.Proofs.Try.func44 rfl rfl fun w0 hw0 => ?_
  repeat' (first
    | (
        refine cw_region (id := 0) rfl ?_
        all_goals (refine ow_cons ?_; first | refine kBox (fun bN => ?_) | refine kBoxA (fun bN => ?_))
        all_goals refine wAssign ?_
        all_goals refine ow_nil ?_)
    | (
        refine cw_region (id := 1) rfl ?_
        all_goals refine wField ?_
        all_goals refine wLoad ?_
        all_goals refine wField ?_
        all_goals refine wLoad ?_
        all_goals refine wGtr ?_
        all_goals refine wMove ?_
        all_goals (refine ow_cons ?_; first | refine gNo ?_ | refine gUn ?_ | (refine gYes ?_; refine kField ?_) | (refine gTf ?_; refine kField ?_) | refine gFf ?_ | (refine gSf (fun hc => ?_) (fun hc => ?_); rotate_left; (focus (refine kField ?_)); rotate_right) | (refine gBf (fun hc => ?_) (fun hc => ?_); rotate_left; (focus (refine kField ?_)); rotate_right))
        all_goals (refine ow_cons ?_; first | refine gNo ?_ | refine gUn ?_ | (refine gYes ?_; refine kLoad ?_) | (refine gTf ?_; refine kLoad ?_) | refine gFf ?_ | (refine gSf (fun hc => ?_) (fun hc => ?_); rotate_left; (focus (refine kLoad ?_)); rotate_right) | (refine gBf (fun hc => ?_) (fun hc => ?_); rotate_left; (focus (refine kLoad ?_)); rotate_right))
        all_goals (refine ow_cons ?_; first | refine gNo ?_ | refine gUn ?_ | (refine gYes ?_; refine kLss ?_) | (refine gTf ?_; refine kLss ?_) | refine gFf ?_ | (refine gSf (fun hc => ?_) (fun hc => ?_); rotate_left; (focus (refine kLss ?_)); rotate_right) | (refine gBf (fun hc => ?_) (fun hc => ?_); rotate_left; (focus (refine kLss ?_)); rotate_right))
        all_goals refine wPick ?_
        all_goals refine wAssign ?_
        all_goals refine ow_nil ?_)
    | refine cw_seq ?_
    | refine tq_n ?_
    | refine cw_skip ?_ | refine cw_ret ?_ | refine cw_exit ?_ | refine cw_block ?_ | refine cTrue ?_ | refine cFalse ?_ | refine cT ?_ | refine cF ?_ | refine cS (fun hc => ?_) (fun hc => ?_) | refine cB (fun hc => ?_) (fun hc => ?_)
    | refine tq_ret ?_ | refine tq_exit ?_ | refine bq_n ?_ | refine bq_ret ?_ | refine bq_same ?_ | refine bq_ne rfl ?_)
  · exact retQ_ret (retV_tmps [2] rfl rfl) ⟨dec_t (.inl hc), rfl⟩ (fun _ _ h => pick0 h)
  · exact retQ_ret (retV_tmps [2] rfl rfl) ⟨dec_i (by omega), rfl⟩ (fun _ _ h => pick0 h)
theorem check45 (x : Sp) (c b : Nat) (s : St) (a : Option Nat) (cap : Nat) : Spec Go.Proofs.Try.prog 45 #[.agg (encSp x).toArray, ptr c] [blk c 24 [ptr b], blk b 63 (encS s a cap)] (fun v L => v = .bool (decide (x.last > s.top)) ∧ L = [blk c 24 [ptr b], blk b 63 (encS s a cap)]) := by
  refine spec_of (args := [.agg (encSp x).toArray, ptr c]) Go.Proofs.Try.func45 rfl rfl fun w0 hw0 => ?_
  repeat' (first
    | (
        refine cw_region (id := 0) rfl ?_
        all_goals (refine ow_cons ?_; first | refine kBox (fun bN => ?_) | refine kBoxA (fun bN => ?_))
        all_goals refine wAssign ?_
        all_goals refine ow_nil ?_)
    | (
        refine cw_draw (id := 1) 8 (by kernel_rfl) (by kernel_rfl) rfl ?_
        all_goals refine hField ?_
        all_goals refine hLoad ?_
        all_goals refine hLoad ?_
        all_goals refine hCheck ?_
        all_goals refine hField ?_
        all_goals refine hLoad ?_
        all_goals refine hGtr ?_
        all_goals refine hAssign ?_
        all_goals refine hw_nil ?_
        all_goals refine ow_nil ?_)
    | refine cw_seq ?_
    | refine tq_n ?_
    | refine cw_skip ?_ | refine cw_ret ?_ | refine cw_exit ?_ | refine cw_block ?_ | refine cTrue ?_ | refine cFalse ?_ | refine cT ?_ | refine cF ?_ | refine cS (fun hc => ?_) (fun hc => ?_) | refine cB (fun hc => ?_) (fun hc => ?_)
    | refine tq_ret ?_ | refine tq_exit ?_ | refine bq_n ?_ | refine bq_ret ?_ | refine bq_same ?_ | refine bq_ne rfl ?_)
  exact retQ_ret (retV_tmps [3] rfl rfl) ⟨rfl, rfl⟩ (fun _ _ h => pick2 h selA selA)
theorem acked32 (x : Sp) (c : Nat) (q : Pk) : Spec Go.Proofs.Try.prog 32 #[.agg (encSp x).toArray, ptr c] [blk c 66 (encPk q)] (fun v L => v = .bool (decide (x.first ≤ q.number ∧ q.number ≤ x.last)) ∧ L = [blk c 66 (encPk q)]) := by
  refine spec_of (args := [.agg (encSp x).toArray, ptr c]) Go.Proofs.Try.func32 rfl rfl fun w0 hw0 => ?_
  repeat' (first
    | (
        refine cw_region (id := 0) rfl ?_
        all_goals (refine ow_cons ?_; first | refine kBox (fun bN => ?_) | refine kBoxA (fun bN => ?_))
        all_goals refine wAssign ?_
        all_goals refine ow_nil ?_)
    | (
        refine cw_region (id := 1) rfl ?_
        all_goals refine wField ?_
        all_goals refine wLoad ?_
        all_goals refine wField ?_
        all_goals refine wLoad ?_
        all_goals refine wLeq ?_
        all_goals refine wMove ?_
        all_goals (refine ow_cons ?_; first | refine gNo ?_ | refine gUn ?_ | (refine gYes ?_; refine kField ?_) | (refine gTt ?_; refine kField ?_) | refine gFt ?_ | (refine gSt (fun hc => ?_) (fun hc => ?_); (focus (refine kField ?_))) | (refine gBt (fun hc => ?_) (fun hc => ?_); (focus (refine kField ?_))))
        all_goals (refine ow_cons ?_; first | refine gNo ?_ | refine gUn ?_ | (refine gYes ?_; refine kLoad ?_) | (refine gTt ?_; refine kLoad ?_) | refine gFt ?_ | (refine gSt (fun hc => ?_) (fun hc => ?_); (focus (refine kLoad ?_))) | (refine gBt (fun hc => ?_) (fun hc => ?_); (focus (refine kLoad ?_))))
        all_goals (refine ow_cons ?_; first | refine gNo ?_ | refine gUn ?_ | (refine gYes ?_; refine kField ?_) | (refine gTt ?_; refine kField ?_) | refine gFt ?_ | (refine gSt (fun hc => ?_) (fun hc => ?_); (focus (refine kField ?_))) | (refine gBt (fun hc => ?_) (fun hc => ?_); (focus (refine kField ?_))))
        all_goals (refine ow_cons ?_; first | refine gNo ?_ | refine gUn ?_ | (refine gYes ?_; refine kLoad ?_) | (refine gTt ?_; refine kLoad ?_) | refine gFt ?_ | (refine gSt (fun hc => ?_) (fun hc => ?_); (focus (refine kLoad ?_))) | (refine gBt (fun hc => ?_) (fun hc => ?_); (focus (refine kLoad ?_))))
        all_goals (refine ow_cons ?_; first | refine gNo ?_ | refine gUn ?_ | (refine gYes ?_; refine kLeq ?_) | (refine gTt ?_; refine kLeq ?_) | refine gFt ?_ | (refine gSt (fun hc => ?_) (fun hc => ?_); (focus (refine kLeq ?_))) | (refine gBt (fun hc => ?_) (fun hc => ?_); (focus (refine kLeq ?_))))
        all_goals refine wPick ?_
        all_goals refine wAssign ?_
        all_goals refine ow_nil ?_)
    | refine cw_seq ?_
    | refine tq_n ?_
    | refine cw_skip ?_ | refine cw_ret ?_ | refine cw_exit ?_ | refine cw_block ?_ | refine cTrue ?_ | refine cFalse ?_ | refine cT ?_ | refine cF ?_ | refine cS (fun hc => ?_) (fun hc => ?_) | refine cB (fun hc => ?_) (fun hc => ?_)
    | refine tq_ret ?_ | refine tq_exit ?_ | refine bq_n ?_ | refine bq_ret ?_ | refine bq_same ?_ | refine bq_ne rfl ?_)
  · exact retQ_ret (retV_tmps [3] rfl rfl) ⟨dec_i (by omega), rfl⟩ (fun _ _ h => pick1 h selA)
  · exact retQ_ret (retV_tmps [3] rfl rfl) ⟨dec_f (by omega), rfl⟩ (fun _ _ h => pick1 h selA)
theorem acked34 (q : Pk) : Spec Go.Proofs.Try.prog 34 #[.agg (encPk q).toArray] [] (fun v L => v = .bool q.asks ∧ L = []) := by
  refine spec_of (args := [.agg (encPk q).toArray]) Go.Proofs.Try.func34 rfl rfl fun w0 hw0 => ?_
  repeat' (first
    | (
        refine cw_region (id := 0) rfl ?_
        all_goals (refine ow_cons ?_; first | refine kBox (fun bN => ?_) | refine kBoxA (fun bN => ?_))
        all_goals refine wAssign ?_
        all_goals refine ow_nil ?_)
    | (
        refine cw_region (id := 1) rfl ?_
        all_goals refine wField ?_
        all_goals refine wLoad ?_
        all_goals refine wAssign ?_
        all_goals refine ow_nil ?_)
    | refine cw_seq ?_
    | refine tq_n ?_
    | refine cw_skip ?_ | refine cw_ret ?_ | refine cw_exit ?_ | refine cw_block ?_ | refine cTrue ?_ | refine cFalse ?_ | refine cT ?_ | refine cF ?_ | refine cS (fun hc => ?_) (fun hc => ?_) | refine cB (fun hc => ?_) (fun hc => ?_)
    | refine tq_ret ?_ | refine tq_exit ?_ | refine bq_n ?_ | refine bq_ret ?_ | refine bq_same ?_ | refine bq_ne rfl ?_)
  exact retQ_ret (retV_tmps [2] rfl rfl) ⟨rfl, rfl⟩ (fun _ _ h => pick0 h)
def inSp (xs : List Sp) (n : Int) : Bool := xs.any fun x => decide (x.first ≤ n ∧ n ≤ x.last)
theorem acked30 (q : Pk) (c : Nat) (ad : Option Addr) (cap : Nat) (xs : List Sp) (hx : xs.length ≤ 1152921504606846976) :
    Spec Go.Proofs.Try.prog 30 #[.agg (encPk q).toArray, ptr c] [blk c 33 [.slice ad xs.length cap], ro ad tSp xs] (fun v L => v = .bool (inSp xs q.number) ∧ L = [blk c 33 [.slice ad xs.length cap], ro ad tSp xs]) := by
  refine spec_of (args := [.agg (encPk q).toArray, ptr c]) Go.Proofs.Try.func30 rfl rfl fun w0 hw0 => ?_
  repeat' (first
    | (
        refine cw_region (id := 0) rfl ?_
        all_goals (refine ow_cons ?_; first | refine kBox (fun bN => ?_) | refine kBoxA (fun bN => ?_))
        all_goals refine wAssign ?_
        all_goals refine ow_nil ?_)
    | (
        refine cw_region (id := 1) rfl ?_
        all_goals refine wLoad ?_
        all_goals refine wFunc ?_
        all_goals (refine ow_cons ?_; (refine st_call (av := [_, _]) rfl (contains31 [ptr bN] [blk bN 66 (encPk q)] ad cap xs (fun x => decide (x.first ≤ q.number ∧ q.number ≤ x.last)) hx (fun x _ => acked32 x bN q)) (.cons selA (.cons selA (.nil _))) ?_; rintro v L' ⟨rfl, rfl⟩))
        all_goals refine wAssign ?_
        all_goals refine ow_nil ?_)
    | refine cw_seq ?_
    | refine tq_n ?_
    | refine cw_skip ?_ | refine cw_ret ?_ | refine cw_exit ?_ | refine cw_block ?_ | refine cTrue ?_ | refine cFalse ?_ | refine cT ?_ | refine cF ?_ | refine cS (fun hc => ?_) (fun hc => ?_) | refine cB (fun hc => ?_) (fun hc => ?_)
    | refine tq_ret ?_ | refine tq_exit ?_ | refine bq_n ?_ | refine bq_ret ?_ | refine bq_same ?_ | refine bq_ne rfl ?_)
  exact retQ_ret (retV_tmps [3] rfl rfl) ⟨rfl, rfl⟩ (fun _ _ h => pick2 h selA selA)
def St.badSp (s : St) (xs : List Sp) : Int := if xs.any (fun x => decide (x.first > x.last ∨ x.first < 0)) then 1 else if xs.any (fun x => decide (x.last > s.top)) then 7 else 0
theorem check28 (b : Nat) (s : St) (a : Option Nat) (cap0 : Nat) (ad : Option Addr) (cap : Nat) (xs : List Sp) (hx : xs.length ≤ 1152921504606846976) :
    Spec Go.Proofs.Try.prog 28 #[ptr b, .slice ad xs.length cap] [blk b 63 (encS s a cap0), ro ad tSp xs] (fun v L => v = i6 (s.badSp xs) ∧ L = [blk b 63 (encS s a cap0), ro ad tSp xs]) := by
  refine spec_of (args := [ptr b, .slice ad xs.length cap]) Go.Proofs.Try.func28 rfl rfl fun w0 hw0 => ?_
  repeat' (first
    | (
        refine cw_region (id := 0) rfl ?_
        all_goals (refine ow_cons ?_; first | refine kBox (fun bN => ?_) | refine kBoxA (fun bN => ?_))
        all_goals refine wAssign ?_
        all_goals refine ow_nil ?_)
    | (
        refine cw_region (id := 1) rfl ?_
        all_goals refine wMove ?_
        all_goals (refine ow_cons ?_; (refine st_call (av := [_, _]) rfl (contains31 [] [] ad cap xs _ hx (fun x _ => check44 x)) (.cons selA (.nil _)) ?_; rintro v L' ⟨rfl, rfl⟩))
        all_goals refine ow_nil ?_)
    | (
        refine cw_region (id := 2) rfl ?_
        all_goals refine wAssign ?_
        all_goals refine ow_nil ?_)
    | (
        refine cw_region (id := 3) rfl ?_
        all_goals refine wMove ?_
        all_goals refine wFunc ?_
        all_goals (refine ow_cons ?_; (refine st_call (av := [_, _]) rfl (contains31 [ptr bN] [blk bN 24 [ptr b], blk b 63 (encS s a cap0)] ad cap xs _ hx (fun x _ => check45 x bN b s a cap0)) (.cons selA (.cons selA (.cons selA (.nil _)))) ?_; rintro v L' ⟨rfl, rfl⟩))
        all_goals refine ow_nil ?_)
    | (
        refine cw_region (id := 4) rfl ?_
        all_goals refine wAssign ?_
        all_goals refine ow_nil ?_)
    | (
        refine cw_region (id := 5) rfl ?_
        all_goals refine wAssign ?_
        all_goals refine ow_nil ?_)
    | refine cw_seq ?_
    | refine tq_n ?_
    | refine cw_skip ?_ | refine cw_ret ?_ | refine cw_exit ?_ | refine cw_block ?_ | refine cTrue ?_ | refine cFalse ?_ | refine cT ?_ | refine cF ?_ | refine cS (fun hc => ?_) (fun hc => ?_) | refine cB (fun hc => ?_) (fun hc => ?_)
    | refine tq_ret ?_ | refine tq_exit ?_ | refine bq_n ?_ | refine bq_ret ?_ | refine bq_same ?_ | refine bq_ne rfl ?_)
  · exact retQ_ret (retV_tmps [4] rfl rfl) ⟨by simp only [St.badSp, hc, if_true]; rfl, rfl⟩ (fun _ _ h => pick2 h selA selA)
  · rename_i h1
    exact retQ_ret (retV_tmps [4] rfl rfl) ⟨by simp only [St.badSp, h1, hc, if_true]; rfl, rfl⟩ (fun _ _ h => pick2 h selA selA)
  · rename_i h1
    exact retQ_ret (retV_tmps [4] rfl rfl) ⟨by simp only [St.badSp, h1, hc]; rfl, rfl⟩ (fun _ _ h => pick2 h selA selA)
end Go.Proofs.Ytomaldjedncjoaa.E
