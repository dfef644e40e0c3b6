/-
The layer 'loss': the list of numbers, and what is taken out of the waiting.
Conditions: each is said with its statement.
-/
import Derived.Test.YtomaldjedncjoaaL2
import Derived.Test.YtomaldjedncjoaaE10
set_option linter.unusedVariables false
namespace Go.Proofs.Ytomaldjedncjoaa.E
open Go
set_option maxRecDepth 100000
set_option maxHeartbeats 4000000
theorem numbers37 (ad : Option Addr) (cap : Nat) (xs : List Pk) (hx : xs.length ≤ 1099511627780) :
    Spec Go.Proofs.Try.prog 37 #[.slice ad xs.length cap] [ro ad tPk xs] (fun v L => ∃ a' cap', v = .slice (oad a') xs.length cap' ∧ L = [ro ad tPk xs, row a' 3 cap' (tInt .i64) (xs.map (·.number))]) := by
  refine spec_of (args := [.slice ad xs.length cap]) Go.Proofs.Try.func37 rfl rfl fun w0 hw0 => ?_
  repeat' (first
    | (
        refine cw_region (id := 0) rfl ?_
        all_goals refine wAssign ?_
        all_goals refine ow_nil ?_)
    | (
        refine cw_region (id := 1) rfl ?_
        all_goals refine wAssign ?_
        all_goals refine ow_nil ?_)
    | (
        refine cw_region (id := 2) rfl ?_
        all_goals refine wMove ?_
        all_goals refine wLen ?_
        all_goals refine wMove ?_
        all_goals refine ow_nil ?_)
    | (
        refine cw_region (id := 3) rfl ?_
        all_goals refine wLss ?_
        all_goals refine ow_nil ?_)
    | (
        refine cw_region (id := 4) rfl ?_
        all_goals (refine ow_cons ?_; first | refine kIndex ?_ | (refine kIdxR (fun g hg => ?_); subst hg) | (refine kIdxO (fun gb go hg => ?_); subst hg))
        all_goals refine wLoad ?_
        all_goals (refine ow_cons ?_; refine st_alloc (fun bN => ?_))
        all_goals (refine ow_cons ?_; first | refine kStore ?_ | refine kStoreA ?_ | refine kStoreR ?_)
        all_goals refine ow_nil ?_)
    | (
        refine cw_region (id := 6) rfl ?_
        all_goals refine wAdd ?_
        all_goals refine wMove ?_
        all_goals refine ow_nil ?_)
    | (
        refine cw_region (id := 7) rfl ?_
        all_goals refine wMove ?_
        all_goals refine wAssign ?_
        all_goals refine ow_nil ?_)
    | refine cw_seq ?_
    | refine tq_n ?_
    | (refine isCW ?_; first | refine cw_region rfl ?_ | refine cw_skip ?_ | refine cw_ret ?_ | refine cw_exit ?_ | refine cw_block ?_ | refine cTrue ?_ | refine cFalse ?_ | refine cT ?_ | refine cF ?_ | refine cS (fun hc => ?_) (fun hc => ?_) | refine cB (fun hc => ?_) (fun hc => ?_))
    | refine tq_ret ?_ | refine tq_exit ?_ | refine bq_n ?_ | refine bq_ret ?_ | refine bq_same ?_ | refine bq_ne rfl ?_
    | refine ow_cons ?_ | refine ow_nil ?_
    | (refine isOpK ?_; first
      | (refine isG ?_; first | refine opk_yes rfl rfl ?_ | refine opk_no rfl rfl ?_ | refine opk_no_undef rfl rfl ?_ | refine opk_g_t rfl rfl (by omega) ?_ | refine opk_g_f rfl rfl (by omega) ?_ | refine opk_g_s rfl rfl (fun hc => ?_) (fun hc => ?_) | refine opk_g_b rfl rfl (fun hc => ?_) (fun hc => ?_))
      | refine kRd ?_
      | refine kStore ?_
      | refine kStoreA ?_
      | refine kStoreR ?_
      | (refine kIdxR (fun g hg => ?_); subst hg)
      | (refine kIdxO (fun gb go hg => ?_); subst hg)
      | refine st_alloc (fun bN => ?_)
      | refine kBox (fun bN => ?_)
      | refine kBoxA (fun bN => ?_)
      | (refine st_buildSlice rfl rfl rfl rfl (fun bN => ?_))
      | (refine st_clearR rfl selA rfl (by omega) rfl rfl rfl ?_)
      | (refine st_clearR rfl selA (by omega) (by omega) rfl rfl rfl ?_))
    | refine hw_cons ?_ | refine hw_nil ?_
    | (refine isOpS ?_; first
      | (refine os_isG ?_; first | refine os_yes rfl rfl ?_ | refine os_no rfl rfl ?_ | refine os_no_undef rfl rfl ?_ | refine os_g_t rfl rfl (by omega) ?_ | refine os_g_f rfl rfl (by omega) ?_ | refine os_g_s rfl rfl (fun hc => ?_) (fun hc => ?_) | refine os_g_b rfl rfl (fun hc => ?_) (fun hc => ?_))
      | refine sRd ?_))
  refine cw_rounds (S := fun s : Nat × Option Nat × Nat => [(0, .slice ad xs.length cap), (3, .slice (oad s.2.1) s.1 s.2.2), (6, .slice ad xs.length cap), (7, .int .i64 (xs.length : Nat)), (8, .int .i64 (s.1 : Nat))]) (H := fun s => [ro ad tPk xs, row s.2.1 3 s.2.2 (tInt .i64) ((xs.map (·.number)).take s.1)])
    (V := fun s => s.1 ≤ xs.length) (μ := fun s => xs.length - s.1) (0, none, 0) ⟨rfl, rfl, rfl, rfl, rfl, trivial⟩ (by simp) (fun _ h => pick2 (tr_addNil 3 (tInt .i64) h) selA selA) ?_
  rintro ⟨i, a, c⟩ e' hi
  simp only at hi
  rcases Nat.lt_or_ge i xs.length with hlt | hge
  · obtain ⟨x, hxi⟩ : ∃ x, xs[i]? = some x := ⟨_, List.getElem?_eq_getElem hlt⟩
    have hlen : ((xs.map (·.number)).take i).length = i := by simp; omega
    dsimp only [upds]
    repeat' (first
      | (
          refine cw_region (id := 0) rfl ?_
          all_goals refine wAssign ?_
          all_goals refine ow_nil ?_)
      | (
          refine cw_region (id := 1) rfl ?_
          all_goals refine wAssign ?_
          all_goals refine ow_nil ?_)
      | (
          refine cw_region (id := 2) rfl ?_
          all_goals refine wMove ?_
          all_goals refine wLen ?_
          all_goals refine wMove ?_
          all_goals refine ow_nil ?_)
      | (
          refine cw_region (id := 3) rfl ?_
          all_goals refine wLss ?_
          all_goals refine ow_nil ?_)
      | (
          refine cw_region (id := 4) rfl ?_
          all_goals (refine ow_cons ?_; first | refine kIndex ?_ | (refine kIdxR (fun g hg => ?_); subst hg) | (refine kIdxO (fun gb go hg => ?_); subst hg))
          all_goals refine wLoad ?_
          all_goals (refine ow_cons ?_; refine st_alloc (fun bN => ?_))
          all_goals (refine ow_cons ?_; first | refine kStore ?_ | refine kStoreA ?_ | refine kStoreR ?_)
          all_goals refine ow_nil ?_)
      | (
          refine cw_region (id := 5) rfl ?_
          all_goals refine wMove ?_
          all_goals refine wField ?_
          all_goals refine wLoad ?_
          all_goals (refine ow_cons ?_; refine st_buildSlice (vs := [.int _ _]) rfl rfl rfl rfl (fun bN => ?_))
          all_goals (refine ow_cons ?_; (refine st_append1 (τ := tInt .i64) x.number (by rw [hlen]; rfl) rfl selA selA rfl rfl rfl (by rw [hlen]; omega) (fun a' cap' => ?_)))
          all_goals refine wAssign ?_
          all_goals refine ow_nil ?_)
      | (
          refine cw_region (id := 6) rfl ?_
          all_goals refine wAdd ?_
          all_goals refine wMove ?_
          all_goals refine ow_nil ?_)
      | (
          refine cw_region (id := 7) rfl ?_
          all_goals refine wMove ?_
          all_goals refine wAssign ?_
          all_goals refine ow_nil ?_)
      | refine cw_seq ?_
      | refine tq_n ?_
      | refine cw_skip ?_ | refine cw_ret ?_ | refine cw_exit ?_ | refine cw_block ?_ | refine cTrue ?_ | refine cFalse ?_ | refine cT ?_ | refine cF ?_ | refine cS (fun hc => ?_) (fun hc => ?_) | refine cB (fun hc => ?_) (fun hc => ?_)
      | refine tq_ret ?_ | refine tq_exit ?_ | refine bq_n ?_ | refine bq_ret ?_ | refine bq_same ?_ | refine bq_ne rfl ?_)
    have ht : (xs.map (·.number)).take i ++ [x.number] = (xs.map (·.number)).take (i + 1) := by
      rw [List.take_add_one, List.getElem?_map, hxi]; rfl
    have hl1 : ((xs.map (·.number)).take (i + 1)).length = i + 1 := by simp; omega
    rw [ht, hl1]
    exact lp_end (i + 1, a', cap') ⟨rfl, rfl, rfl, rfl, rfl, trivial⟩ hlt (by simp only; omega) (fun _ h => pick2 h selA selA)
  · dsimp only [upds]
    have hi2 : i = xs.length := by omega
    subst hi2
    repeat' (first
      | (
          refine cw_region (id := 0) rfl ?_
          all_goals refine wAssign ?_
          all_goals refine ow_nil ?_)
      | (
          refine cw_region (id := 1) rfl ?_
          all_goals refine wAssign ?_
          all_goals refine ow_nil ?_)
      | (
          refine cw_region (id := 2) rfl ?_
          all_goals refine wMove ?_
          all_goals refine wLen ?_
          all_goals refine wMove ?_
          all_goals refine ow_nil ?_)
      | (
          refine cw_region (id := 3) rfl ?_
          all_goals refine wLss ?_
          all_goals refine ow_nil ?_)
      | (
          refine cw_region (id := 4) rfl ?_
          all_goals (refine ow_cons ?_; first | refine kIndex ?_ | (refine kIdxR (fun g hg => ?_); subst hg) | (refine kIdxO (fun gb go hg => ?_); subst hg))
          all_goals refine wLoad ?_
          all_goals (refine ow_cons ?_; refine st_alloc (fun bN => ?_))
          all_goals (refine ow_cons ?_; first | refine kStore ?_ | refine kStoreA ?_ | refine kStoreR ?_)
          all_goals refine ow_nil ?_)
      | (
          refine cw_region (id := 6) rfl ?_
          all_goals refine wAdd ?_
          all_goals refine wMove ?_
          all_goals refine ow_nil ?_)
      | (
          refine cw_region (id := 7) rfl ?_
          all_goals refine wMove ?_
          all_goals refine wAssign ?_
          all_goals refine ow_nil ?_)
      | refine cw_seq ?_
      | refine tq_n ?_
      | (refine isCW ?_; first | refine cw_region rfl ?_ | refine cw_skip ?_ | refine cw_ret ?_ | refine cw_exit ?_ | refine cw_block ?_ | refine cTrue ?_ | refine cFalse ?_ | refine cT ?_ | refine cF ?_ | refine cS (fun hc => ?_) (fun hc => ?_) | refine cB (fun hc => ?_) (fun hc => ?_))
      | refine tq_ret ?_ | refine tq_exit ?_ | refine bq_n ?_ | refine bq_ret ?_ | refine bq_same ?_ | refine bq_ne rfl ?_
      | refine ow_cons ?_ | refine ow_nil ?_
      | (refine isOpK ?_; first
        | (refine isG ?_; first | refine opk_yes rfl rfl ?_ | refine opk_no rfl rfl ?_ | refine opk_no_undef rfl rfl ?_ | refine opk_g_t rfl rfl (by omega) ?_ | refine opk_g_f rfl rfl (by omega) ?_ | refine opk_g_s rfl rfl (fun hc => ?_) (fun hc => ?_) | refine opk_g_b rfl rfl (fun hc => ?_) (fun hc => ?_))
        | refine kRd ?_
        | refine kStore ?_
        | refine kStoreA ?_
        | refine kStoreR ?_
        | (refine kIdxR (fun g hg => ?_); subst hg)
        | (refine kIdxO (fun gb go hg => ?_); subst hg)
        | refine st_alloc (fun bN => ?_)
        | refine kBox (fun bN => ?_)
        | refine kBoxA (fun bN => ?_)
        | (refine st_buildSlice rfl rfl rfl rfl (fun bN => ?_))
        | (refine st_clearR rfl selA rfl (by omega) rfl rfl rfl ?_)
        | (refine st_clearR rfl selA (by omega) (by omega) rfl rfl rfl ?_))
      | refine hw_cons ?_ | refine hw_nil ?_
      | (refine isOpS ?_; first
        | (refine os_isG ?_; first | refine os_yes rfl rfl ?_ | refine os_no rfl rfl ?_ | refine os_no_undef rfl rfl ?_ | refine os_g_t rfl rfl (by omega) ?_ | refine os_g_f rfl rfl (by omega) ?_ | refine os_g_s rfl rfl (fun hc => ?_) (fun hc => ?_) | refine os_g_b rfl rfl (fun hc => ?_) (fun hc => ?_))
        | refine sRd ?_))
    have ht : (xs.map (·.number)).take xs.length = xs.map (·.number) := List.take_of_length_le (by simp)
    rw [ht]
    exact retQ_ret (retV_tmps [2] rfl rfl) ⟨a, c, rfl, rfl⟩ (fun _ _ h => h)
theorem Spec.ro_use {f : FuncId} {args : Array Value} {F : Heap} {α : Type} {a : Option Nat} {T : TypeId} {cap : Nat} {τ : Ty α} {xs : List α} {σ : Type} {F' : σ → Heap} {p : Value → σ → Prop}
    (h : Spec Go.Proofs.Try.prog f args (F ++ [ro (oad a) τ xs]) (fun v L => ∃ s, p v s ∧ L = F' s ++ [ro (oad a) τ xs])) (hF : ∀ s, ∀ z ∈ F' s, ∀ b, z.R b → RS F b) :
    Spec Go.Proofs.Try.prog f args (F ++ [row a T cap τ xs]) (fun v L => ∃ s, p v s ∧ L = F' s ++ [row a T cap τ xs]) :=
  h.reads (fun h hr => ro_of_row hr) (fun b hb => hb) (fun b ⟨_, x, hx, hb⟩ => by
    cases a with
    | none => cases hx
    | some g => injection hx with hx; subst hx; exact .inl (by rw [← hb]; rfl)) fun v L ⟨s, h1, h2⟩ => ⟨F' s, h2, fun z hz b hb => .inr (.inr (hF s z hz b hb)), s, h1, rfl⟩
/-- A predicate that may change what it holds: after the first k elements that is said by inv k. -/
def Pred (fid : FuncId) (caps : List Value) (xs : List Pk) (p : Pk → Bool) {σ : Type} (F : σ → Heap) (inv : Nat → σ → Prop) : Prop :=
  ∀ (k : Nat) (x : Pk) (s : σ), xs[k]? = some x → inv k s → Spec Go.Proofs.Try.prog fid ([Value.agg (encPk x).toArray] ++ caps).toArray (F s) (fun v L => ∃ s', (v = .bool (p x) ∧ inv (k + 1) s') ∧ L = F s')
def idxSays (xs : List Pk) (p : Pk → Bool) {σ : Type} (inv : Nat → σ → Prop) (v : Value) (s : σ) : Prop :=
  (∃ (i : Nat) (x : Pk), i < xs.length ∧ xs[i]? = some x ∧ p x = true ∧ (∀ (j : Nat) (x' : Pk), j < i → xs[j]? = some x' → p x' = false) ∧ v = i6 i ∧ inv (i + 1) s) ∨ ((∀ (j : Nat) (x' : Pk), xs[j]? = some x' → p x' = false) ∧ v = i6 (-1) ∧ inv xs.length s)
theorem index49s {fid : FuncId} [Fnc Go.Proofs.Try.prog fid] (caps : List Value) (ad : Option Addr) (cap : Nat) (xs : List Pk) (p : Pk → Bool) {σ : Type} (F : σ → Heap) (inv : Nat → σ → Prop) (hx : xs.length ≤ 1152921504606846976)
    (hp : Pred fid caps xs p F inv) (s0 : σ) (hs0 : inv 0 s0) :
    Spec Go.Proofs.Try.prog 49 #[.slice ad xs.length cap, .func (.func fid) #[] caps.toArray] (F s0 ++ [ro ad tPk xs]) (fun v L => ∃ s, idxSays xs p inv v s ∧ L = F s ++ [ro ad tPk xs]) := by
  refine spec_of (args := [.slice ad xs.length cap, .func (.func fid) #[] caps.toArray]) Go.Proofs.Try.func49 rfl rfl fun w0 hw0 => ?_
  repeat' (first
    | (
        refine cw_region (id := 0) rfl ?_
        all_goals refine wAssign ?_
        all_goals refine ow_nil ?_)
    | (
        refine cw_region (id := 1) rfl ?_
        all_goals refine wMove ?_
        all_goals refine wLen ?_
        all_goals refine wMove ?_
        all_goals refine ow_nil ?_)
    | (
        refine cw_region (id := 2) rfl ?_
        all_goals refine wLss ?_
        all_goals refine ow_nil ?_)
    | (
        refine cw_region (id := 3) rfl ?_
        all_goals refine wMove ?_
        all_goals refine wAssign ?_
        all_goals refine ow_nil ?_)
    | (
        refine cw_region (id := 5) rfl ?_
        all_goals refine wMove ?_
        all_goals refine wAssign ?_
        all_goals refine ow_nil ?_)
    | (
        refine cw_region (id := 6) rfl ?_
        all_goals refine wAdd ?_
        all_goals refine wMove ?_
        all_goals refine ow_nil ?_)
    | (
        refine cw_region (id := 7) rfl ?_
        all_goals refine wAssign ?_
        all_goals refine ow_nil ?_)
    | refine cw_seq ?_
    | refine tq_n ?_
    | (refine isCW ?_; first | refine cw_region rfl ?_ | refine cw_skip ?_ | refine cw_ret ?_ | refine cw_exit ?_ | refine cw_block ?_ | refine cTrue ?_ | refine cFalse ?_ | refine cT ?_ | refine cF ?_ | refine cS (fun hc => ?_) (fun hc => ?_) | refine cB (fun hc => ?_) (fun hc => ?_))
    | refine tq_ret ?_ | refine tq_exit ?_ | refine bq_n ?_ | refine bq_ret ?_ | refine bq_same ?_ | refine bq_ne rfl ?_
    | refine ow_cons ?_ | refine ow_nil ?_
    | (refine isOpK ?_; first
      | (refine isG ?_; first | refine opk_yes rfl rfl ?_ | refine opk_no rfl rfl ?_ | refine opk_no_undef rfl rfl ?_ | refine opk_g_t rfl rfl (by omega) ?_ | refine opk_g_f rfl rfl (by omega) ?_ | refine opk_g_s rfl rfl (fun hc => ?_) (fun hc => ?_) | refine opk_g_b rfl rfl (fun hc => ?_) (fun hc => ?_))
      | refine kRd ?_
      | refine kStore ?_
      | refine kStoreA ?_
      | refine kStoreR ?_
      | (refine kIdxR (fun g hg => ?_); subst hg)
      | (refine kIdxO (fun gb go hg => ?_); subst hg)
      | refine st_alloc (fun bN => ?_)
      | refine kBox (fun bN => ?_)
      | refine kBoxA (fun bN => ?_)
      | (refine st_buildSlice rfl rfl rfl rfl (fun bN => ?_))
      | (refine st_clearR rfl selA rfl (by omega) rfl rfl rfl ?_)
      | (refine st_clearR rfl selA (by omega) (by omega) rfl rfl rfl ?_))
    | refine hw_cons ?_ | refine hw_nil ?_
    | (refine isOpS ?_; first
      | (refine os_isG ?_; first | refine os_yes rfl rfl ?_ | refine os_no rfl rfl ?_ | refine os_no_undef rfl rfl ?_ | refine os_g_t rfl rfl (by omega) ?_ | refine os_g_f rfl rfl (by omega) ?_ | refine os_g_s rfl rfl (fun hc => ?_) (fun hc => ?_) | refine os_g_b rfl rfl (fun hc => ?_) (fun hc => ?_))
      | refine sRd ?_))
  refine cw_rounds (S := fun s : Nat × σ => [(0, .slice ad xs.length cap), (1, .func (.func fid) #[] caps.toArray), (7, .int .i64 (xs.length : Nat)), (8, .int .i64 (s.1 : Nat))]) (H := fun s => F s.2 ++ [ro ad tPk xs])
    (V := fun s => s.1 ≤ xs.length ∧ inv s.1 s.2 ∧ ∀ (j : Nat) (x' : Pk), j < s.1 → xs[j]? = some x' → p x' = false) (μ := fun s => xs.length - s.1) (0, s0) ⟨rfl, rfl, rfl, rfl, trivial⟩ ⟨by simp only; omega, hs0, fun j x' h => by simp only at h; omega⟩ (fun _ h => h) ?_
  rintro ⟨i, s⟩ e' ⟨hi, hinv, hn⟩
  simp only at hi hinv hn
  rcases Nat.lt_or_ge i xs.length with hlt | hge
  · obtain ⟨x, hxi⟩ : ∃ x, xs[i]? = some x := ⟨_, List.getElem?_eq_getElem hlt⟩
    dsimp only [upds]
    repeat' (first
      | (
          refine cw_region (id := 0) rfl ?_
          all_goals refine wAssign ?_
          all_goals refine ow_nil ?_)
      | (
          refine cw_region (id := 1) rfl ?_
          all_goals refine wMove ?_
          all_goals refine wLen ?_
          all_goals refine wMove ?_
          all_goals refine ow_nil ?_)
      | (
          refine cw_region (id := 2) rfl ?_
          all_goals refine wLss ?_
          all_goals refine ow_nil ?_)
      | (
          refine cw_region (id := 3) rfl ?_
          all_goals refine wMove ?_
          all_goals refine wAssign ?_
          all_goals refine ow_nil ?_)
      | (
          refine cw_region (id := 4) rfl ?_
          all_goals refine wMove ?_
          all_goals refine wMove ?_
          all_goals refine wMove ?_
          all_goals (refine ow_cons ?_; first | refine kIndex ?_ | (refine kIdxR (fun g hg => ?_); subst hg) | (refine kIdxO (fun gb go hg => ?_); subst hg))
          all_goals refine wLoad ?_
          all_goals (refine ow_cons ?_; (refine st_callV (av := [_]) rfl rfl (hp i x s hxi hinv) (selL_pre _ _) ?_; rintro v L' ⟨s', ⟨rfl, hinv'⟩, rfl⟩))
          all_goals refine ow_nil ?_)
      | (
          refine cw_region (id := 5) rfl ?_
          all_goals refine wMove ?_
          all_goals refine wAssign ?_
          all_goals refine ow_nil ?_)
      | (
          refine cw_region (id := 6) rfl ?_
          all_goals refine wAdd ?_
          all_goals refine wMove ?_
          all_goals refine ow_nil ?_)
      | (
          refine cw_region (id := 7) rfl ?_
          all_goals refine wAssign ?_
          all_goals refine ow_nil ?_)
      | refine cw_seq ?_
      | refine tq_n ?_
      | refine cw_skip ?_ | refine cw_ret ?_ | refine cw_exit ?_ | refine cw_block ?_ | refine cTrue ?_ | refine cFalse ?_ | refine cT ?_ | refine cF ?_ | refine cS (fun hc => ?_) (fun hc => ?_) | refine cB (fun hc => ?_) (fun hc => ?_)
      | refine tq_ret ?_ | refine tq_exit ?_ | refine bq_n ?_ | refine bq_ret ?_ | refine bq_same ?_ | refine bq_ne rfl ?_)
    · exact retQ_ret (retV_tmps [4] rfl rfl) ⟨s', .inl ⟨i, x, hlt, hxi, hc, hn, rfl, hinv'⟩, rfl⟩ (fun _ _ h => h)
    · refine lp_end (i + 1, s') ⟨rfl, rfl, rfl, rfl, trivial⟩ ⟨by simp only; omega, hinv', fun j x' hj hx' => ?_⟩ (by simp only; omega) (fun _ h => h)
      simp only at hj
      rcases Nat.lt_succ_iff_lt_or_eq.1 hj with hj | rfl
      · exact hn j x' hj hx'
      · rw [hxi] at hx'; injection hx' with hx'; subst hx'; exact hc
  · dsimp only [upds]
    have hi2 : i = xs.length := by omega
    subst hi2
    repeat' (first
      | (
          refine cw_region (id := 0) rfl ?_
          all_goals refine wAssign ?_
          all_goals refine ow_nil ?_)
      | (
          refine cw_region (id := 1) rfl ?_
          all_goals refine wMove ?_
          all_goals refine wLen ?_
          all_goals refine wMove ?_
          all_goals refine ow_nil ?_)
      | (
          refine cw_region (id := 2) rfl ?_
          all_goals refine wLss ?_
          all_goals refine ow_nil ?_)
      | (
          refine cw_region (id := 3) rfl ?_
          all_goals refine wMove ?_
          all_goals refine wAssign ?_
          all_goals refine ow_nil ?_)
      | (
          refine cw_region (id := 5) rfl ?_
          all_goals refine wMove ?_
          all_goals refine wAssign ?_
          all_goals refine ow_nil ?_)
      | (
          refine cw_region (id := 6) rfl ?_
          all_goals refine wAdd ?_
          all_goals refine wMove ?_
          all_goals refine ow_nil ?_)
      | (
          refine cw_region (id := 7) rfl ?_
          all_goals refine wAssign ?_
          all_goals refine ow_nil ?_)
      | refine cw_seq ?_
      | refine tq_n ?_
      | (refine isCW ?_; first | refine cw_region rfl ?_ | refine cw_skip ?_ | refine cw_ret ?_ | refine cw_exit ?_ | refine cw_block ?_ | refine cTrue ?_ | refine cFalse ?_ | refine cT ?_ | refine cF ?_ | refine cS (fun hc => ?_) (fun hc => ?_) | refine cB (fun hc => ?_) (fun hc => ?_))
      | refine tq_ret ?_ | refine tq_exit ?_ | refine bq_n ?_ | refine bq_ret ?_ | refine bq_same ?_ | refine bq_ne rfl ?_
      | refine ow_cons ?_ | refine ow_nil ?_
      | (refine isOpK ?_; first
        | (refine isG ?_; first | refine opk_yes rfl rfl ?_ | refine opk_no rfl rfl ?_ | refine opk_no_undef rfl rfl ?_ | refine opk_g_t rfl rfl (by omega) ?_ | refine opk_g_f rfl rfl (by omega) ?_ | refine opk_g_s rfl rfl (fun hc => ?_) (fun hc => ?_) | refine opk_g_b rfl rfl (fun hc => ?_) (fun hc => ?_))
        | refine kRd ?_
        | refine kStore ?_
        | refine kStoreA ?_
        | refine kStoreR ?_
        | (refine kIdxR (fun g hg => ?_); subst hg)
        | (refine kIdxO (fun gb go hg => ?_); subst hg)
        | refine st_alloc (fun bN => ?_)
        | refine kBox (fun bN => ?_)
        | refine kBoxA (fun bN => ?_)
        | (refine st_buildSlice rfl rfl rfl rfl (fun bN => ?_))
        | (refine st_clearR rfl selA rfl (by omega) rfl rfl rfl ?_)
        | (refine st_clearR rfl selA (by omega) (by omega) rfl rfl rfl ?_))
      | refine hw_cons ?_ | refine hw_nil ?_
      | (refine isOpS ?_; first
        | (refine os_isG ?_; first | refine os_yes rfl rfl ?_ | refine os_no rfl rfl ?_ | refine os_no_undef rfl rfl ?_ | refine os_g_t rfl rfl (by omega) ?_ | refine os_g_f rfl rfl (by omega) ?_ | refine os_g_s rfl rfl (fun hc => ?_) (fun hc => ?_) | refine os_g_b rfl rfl (fun hc => ?_) (fun hc => ?_))
        | refine sRd ?_))
    exact retQ_ret (retV_tmps [4] rfl rfl) ⟨s, .inr ⟨fun j x' hj => hn j x' (List.getElem?_eq_some_iff.1 hj).1 hj, rfl, hinv⟩, rfl⟩ (fun _ _ h => h)
/-- What a round of DeleteFunc keeps. -/
structure Del (xs : List Pk) (p : Pk → Bool) {σ : Type} (inv : Nat → σ → Prop) (i j : Nat) (cur : List Pk) (s : σ) : Prop where
  ij : i < j
  jn : j ≤ xs.length
  len : cur.length = xs.length
  pre : cur.take i = (xs.take j).filter (fun x => !p x)
  suf : cur.drop j = xs.drop j
  inv : inv j s
theorem Del.get {xs : List Pk} {p : Pk → Bool} {σ : Type} {inv : Nat → σ → Prop} {i j : Nat} {cur : List Pk} {s : σ} (h : Del xs p inv i j cur s) {x : Pk} (hx : xs[j]? = some x) : cur[j]? = some x := by
  have : (cur.drop j)[0]? = (xs.drop j)[0]? := by rw [h.suf]
  simpa [hx] using this
theorem take_snoc {α : Type} {l : List α} {i : Nat} {x : α} (h : l[i]? = some x) : l.take (i + 1) = l.take i ++ [x] := by rw [List.take_add_one, h]; rfl
theorem drop_succ' {α : Type} {l m : List α} {j : Nat} (h : l.drop j = m.drop j) : l.drop (j + 1) = m.drop (j + 1) := by
  rw [← List.drop_drop, ← List.drop_drop, h]
theorem Del.gone {xs : List Pk} {p : Pk → Bool} {σ : Type} {inv : Nat → σ → Prop} {i j : Nat} {cur : List Pk} {s s' : σ} (h : Del xs p inv i j cur s) {x : Pk} (hx : xs[j]? = some x) (hp : p x = true) (hs : inv (j + 1) s') : Del xs p inv i (j + 1) cur s' :=
  ⟨by have := h.ij; omega, (List.getElem?_eq_some_iff.1 hx).1, h.len, by rw [h.pre, take_snoc hx]; simp [hp], drop_succ' h.suf, hs⟩
theorem Del.kept {xs : List Pk} {p : Pk → Bool} {σ : Type} {inv : Nat → σ → Prop} {i j : Nat} {cur : List Pk} {s s' : σ} (h : Del xs p inv i j cur s) {x : Pk} (hx : xs[j]? = some x) (hp : p x = false) (hs : inv (j + 1) s') : Del xs p inv (i + 1) (j + 1) (cur.set i x) s' := by
  have hij := h.ij
  have hjn : j < xs.length := (List.getElem?_eq_some_iff.1 hx).1
  have hlen := h.len
  refine ⟨by omega, hjn, by rw [List.length_set]; exact h.len, ?_, ?_, hs⟩
  · have : (cur.set i x)[i]? = some x := by rw [List.getElem?_set_self (by omega)]
    rw [take_snoc this, List.take_set_of_le (Nat.le_refl _), h.pre, take_snoc hx]
    simp [hp]
  · rw [List.drop_set_of_lt (by omega)]; exact drop_succ' h.suf
theorem Del.first {xs : List Pk} {p : Pk → Bool} {σ : Type} {inv : Nat → σ → Prop} {i : Nat} {x : Pk} {s : σ} (hx : xs[i]? = some x) (hp : p x = true) (hn : ∀ (j : Nat) (x' : Pk), j < i → xs[j]? = some x' → p x' = false) (hs : inv (i + 1) s) : Del xs p inv i (i + 1) xs s := by
  refine ⟨by omega, (List.getElem?_eq_some_iff.1 hx).1, rfl, ?_, rfl, hs⟩
  rw [take_snoc hx, List.filter_append]
  have : (xs.take i).filter (fun x => !p x) = xs.take i := List.filter_eq_self.2 fun y hy => by
    obtain ⟨j, hj⟩ := List.mem_iff_getElem?.1 hy
    rw [List.getElem?_take] at hj
    split at hj
    · rename_i hlt; simp [hn j y hlt hj]
    · cases hj
  rw [this]; simp [hp]
theorem filter_none {xs : List Pk} {p : Pk → Bool} (hn : ∀ (j : Nat) (x' : Pk), xs[j]? = some x' → p x' = false) : xs.filter (fun x => !p x) = xs := List.filter_eq_self.2 fun y hy => by
  obtain ⟨j, hj⟩ := List.mem_iff_getElem?.1 hy
  simp [hn j y hj]
theorem delete46 {fid : FuncId} [Fnc Go.Proofs.Try.prog fid] (caps : List Value) (a : Option Nat) (cap : Nat) (xs : List Pk) (p : Pk → Bool) {σ : Type} (F : σ → Heap) (inv : Nat → σ → Prop) (hx : xs.length ≤ 1152921504606846976)
    (hp : Pred fid caps xs p F inv) (hF : ∀ s s', ∀ z ∈ F s', ∀ b, z.R b → RS (F s) b) (s0 : σ) (hs0 : inv 0 s0) :
    Spec Go.Proofs.Try.prog 46 #[.slice (oad a) xs.length cap, .func (.func fid) #[] caps.toArray] (F s0 ++ [row a 66 cap tPk xs])
      (fun v L => ∃ s, (v = .slice (oad a) (xs.filter (fun x => !p x)).length cap ∧ inv xs.length s) ∧ L = F s ++ [row a 66 cap tPk (xs.filter (fun x => !p x))]) := by
  refine spec_of (args := [.slice (oad a) xs.length cap, .func (.func fid) #[] caps.toArray]) Go.Proofs.Try.func46 rfl rfl fun w0 hw0 => ?_
  refine CW.know (p := xs.length ≤ cap) (fun w h => (row_len (h.ok _ (List.mem_append_right _ (List.mem_singleton.2 rfl)))).1) fun hcap => ?_
  repeat' (first
    | (
        refine cw_region (id := 0) rfl ?_
        all_goals refine wAssign ?_
        all_goals refine ow_nil ?_)
    | (
        refine cw_region (id := 1) rfl ?_
        all_goals refine wMove ?_
        all_goals refine wMove ?_
        all_goals (refine ow_cons ?_; (refine st_callA (av := [_, _]) rfl (Spec.ro_use (index49s caps (oad a) cap xs p F inv hx hp s0 hs0) (fun s => hF s0 s)) ?_; rintro v L' ⟨s, ⟨i, x, hil, hxi, hpx, hn, rfl, hs⟩ | ⟨hn, rfl, hs⟩, rfl⟩))
        all_goals refine wAssign ?_
        all_goals refine ow_nil ?_)
    | (
        refine cw_region (id := 2) rfl ?_
        all_goals refine wMove ?_
        all_goals refine wEql ?_
        all_goals refine ow_nil ?_)
    | (
        refine cw_region (id := 3) rfl ?_
        all_goals refine wMove ?_
        all_goals refine wAssign ?_
        all_goals refine ow_nil ?_)
    | (
        refine cw_region (id := 4) rfl ?_
        all_goals refine wMove ?_
        all_goals refine wAdd ?_
        all_goals refine wAssign ?_
        all_goals refine ow_nil ?_)
    | (
        refine cw_region (id := 5) rfl ?_
        all_goals refine wMove ?_
        all_goals refine wMove ?_
        all_goals refine wLen ?_
        all_goals refine wLss ?_
        all_goals refine ow_nil ?_)
    | (
        refine cw_region (id := 7) rfl ?_
        all_goals refine wMove ?_
        all_goals refine wMove ?_
        all_goals (refine ow_cons ?_; first | refine kIndex ?_ | (refine kIdxR (fun g hg => ?_); subst hg) | (refine kIdxO (fun gb go hg => ?_); subst hg))
        all_goals refine wLoad ?_
        all_goals (refine ow_cons ?_; refine st_alloc (fun bN => ?_))
        all_goals (refine ow_cons ?_; first | refine kStore ?_ | refine kStoreA ?_ | refine kStoreR ?_)
        all_goals refine ow_nil ?_)
    | (
        refine cw_region (id := 9) rfl ?_
        all_goals refine wMove ?_
        all_goals refine wMove ?_
        all_goals refine wLoad ?_
        all_goals (refine ow_cons ?_; first | refine kIndex ?_ | (refine kIdxR (fun g hg => ?_); subst hg) | (refine kIdxO (fun gb go hg => ?_); subst hg))
        all_goals (refine ow_cons ?_; first | refine kStore ?_ | refine kStoreA ?_ | refine kStoreR ?_)
        all_goals refine ow_nil ?_)
    | (
        refine cw_region (id := 10) rfl ?_
        all_goals refine wMove ?_
        all_goals refine wAdd ?_
        all_goals refine wAssign ?_
        all_goals refine ow_nil ?_)
    | (
        refine cw_region (id := 6) rfl ?_
        all_goals refine wMove ?_
        all_goals refine wAdd ?_
        all_goals refine wAssign ?_
        all_goals refine ow_nil ?_)
    | (
        refine cw_region (id := 11) rfl ?_
        all_goals refine wMove ?_
        all_goals refine wMove ?_
        all_goals refine wSlice ?_
        all_goals (refine ow_cons ?_; first | (refine st_clearR rfl selA rfl (by omega) rfl rfl rfl ?_) | (refine st_clearR rfl selA (by omega) (by omega) rfl rfl rfl ?_))
        all_goals refine ow_nil ?_)
    | (
        refine cw_region (id := 12) rfl ?_
        all_goals refine wMove ?_
        all_goals refine wMove ?_
        all_goals refine wSlice ?_
        all_goals refine wAssign ?_
        all_goals refine ow_nil ?_)
    | refine cw_seq ?_
    | refine tq_n ?_
    | (refine isCW ?_; first | refine cw_region rfl ?_ | refine cw_skip ?_ | refine cw_ret ?_ | refine cw_exit ?_ | refine cw_block ?_ | refine cTrue ?_ | refine cFalse ?_ | refine cT ?_ | refine cF ?_ | refine cS (fun hc => ?_) (fun hc => ?_) | refine cB (fun hc => ?_) (fun hc => ?_))
    | refine tq_ret ?_ | refine tq_exit ?_ | refine bq_n ?_ | refine bq_ret ?_ | refine bq_same ?_ | refine bq_ne rfl ?_
    | refine ow_cons ?_ | refine ow_nil ?_
    | (refine isOpK ?_; first
      | (refine isG ?_; first | refine opk_yes rfl rfl ?_ | refine opk_no rfl rfl ?_ | refine opk_no_undef rfl rfl ?_ | refine opk_g_t rfl rfl (by omega) ?_ | refine opk_g_f rfl rfl (by omega) ?_ | refine opk_g_s rfl rfl (fun hc => ?_) (fun hc => ?_) | refine opk_g_b rfl rfl (fun hc => ?_) (fun hc => ?_))
      | refine kRd ?_
      | refine kStore ?_
      | refine kStoreA ?_
      | refine kStoreR ?_
      | (refine kIdxR (fun g hg => ?_); subst hg)
      | (refine kIdxO (fun gb go hg => ?_); subst hg)
      | refine st_alloc (fun bN => ?_)
      | refine kBox (fun bN => ?_)
      | refine kBoxA (fun bN => ?_)
      | (refine st_buildSlice rfl rfl rfl rfl (fun bN => ?_))
      | (refine st_clearR rfl selA rfl (by omega) rfl rfl rfl ?_)
      | (refine st_clearR rfl selA (by omega) (by omega) rfl rfl rfl ?_)
      | (refine st_callA (av := [_, _]) rfl (Spec.ro_use (index49s caps (oad a) cap xs p F inv hx hp s0 hs0) (fun s => hF s0 s)) ?_; rintro v L' ⟨s, ⟨i, x, hil, hxi, hpx, hn, rfl, hs⟩ | ⟨hn, rfl, hs⟩, rfl⟩))
    | refine hw_cons ?_ | refine hw_nil ?_
    | (refine isOpS ?_; first
      | (refine os_isG ?_; first | refine os_yes rfl rfl ?_ | refine os_no rfl rfl ?_ | refine os_no_undef rfl rfl ?_ | refine os_g_t rfl rfl (by omega) ?_ | refine os_g_f rfl rfl (by omega) ?_ | refine os_g_s rfl rfl (fun hc => ?_) (fun hc => ?_) | refine os_g_b rfl rfl (fun hc => ?_) (fun hc => ?_))
      | refine sRd ?_))
  · refine cw_rounds (S := fun g : (Nat × Nat) × List Pk × σ => [(0, .slice (oad a) xs.length cap), (1, .func (.func fid) #[] caps.toArray), (5, .int .i64 (g.1.1 : Nat)), (6, .int .i64 (g.1.2 : Nat))]) (H := fun g => F g.2.2 ++ [row a 66 cap tPk g.2.1])
      (V := fun g => Del xs p inv g.1.1 g.1.2 g.2.1 g.2.2) (μ := fun g => xs.length - g.1.2) ((i, i + 1), xs, s) ⟨rfl, rfl, rfl, rfl, trivial⟩ (Del.first hxi hpx hn hs) (fun _ h => h) ?_
    rintro ⟨⟨i, j⟩, cur, s⟩ e' hd
    simp only at hd
    have hij := hd.ij
    have hcl := hd.len
    have hjn := hd.jn
    rcases Nat.lt_or_ge j xs.length with hlt | hge
    · obtain ⟨x, hxj⟩ : ∃ x, xs[j]? = some x := ⟨_, List.getElem?_eq_getElem hlt⟩
      have hcj := hd.get hxj
      dsimp only [upds]
      repeat' (first
        | (
            refine cw_region (id := 0) rfl ?_
            all_goals refine wAssign ?_
            all_goals refine ow_nil ?_)
        | (
            refine cw_region (id := 2) rfl ?_
            all_goals refine wMove ?_
            all_goals refine wEql ?_
            all_goals refine ow_nil ?_)
        | (
            refine cw_region (id := 3) rfl ?_
            all_goals refine wMove ?_
            all_goals refine wAssign ?_
            all_goals refine ow_nil ?_)
        | (
            refine cw_region (id := 4) rfl ?_
            all_goals refine wMove ?_
            all_goals refine wAdd ?_
            all_goals refine wAssign ?_
            all_goals refine ow_nil ?_)
        | (
            refine cw_region (id := 5) rfl ?_
            all_goals refine wMove ?_
            all_goals refine wMove ?_
            all_goals refine wLen ?_
            all_goals refine wLss ?_
            all_goals refine ow_nil ?_)
        | (
            refine cw_region (id := 7) rfl ?_
            all_goals refine wMove ?_
            all_goals refine wMove ?_
            all_goals (refine ow_cons ?_; first | refine kIndex ?_ | (refine kIdxR (fun g hg => ?_); subst hg) | (refine kIdxO (fun gb go hg => ?_); subst hg))
            all_goals refine wLoad ?_
            all_goals (refine ow_cons ?_; refine st_alloc (fun bN => ?_))
            all_goals (refine ow_cons ?_; first | refine kStore ?_ | refine kStoreA ?_ | refine kStoreR ?_)
            all_goals refine ow_nil ?_)
        | (
            refine cw_region (id := 8) rfl ?_
            all_goals refine wMove ?_
            all_goals refine wLoad ?_
            all_goals (refine ow_cons ?_; (refine st_callV (av := [_]) rfl rfl (hp j x s hxj hd.inv) (selL_mid [_] _ [_]) ?_; rintro v L' ⟨s', ⟨rfl, hinv'⟩, rfl⟩))
            all_goals refine wNot ?_
            all_goals refine ow_nil ?_)
        | (
            refine cw_region (id := 9) rfl ?_
            all_goals refine wMove ?_
            all_goals refine wMove ?_
            all_goals refine wLoad ?_
            all_goals (refine ow_cons ?_; first | refine kIndex ?_ | (refine kIdxR (fun g hg => ?_); subst hg) | (refine kIdxO (fun gb go hg => ?_); subst hg))
            all_goals (refine ow_cons ?_; first | refine kStore ?_ | refine kStoreA ?_ | refine kStoreR ?_)
            all_goals refine ow_nil ?_)
        | (
            refine cw_region (id := 10) rfl ?_
            all_goals refine wMove ?_
            all_goals refine wAdd ?_
            all_goals refine wAssign ?_
            all_goals refine ow_nil ?_)
        | (
            refine cw_region (id := 6) rfl ?_
            all_goals refine wMove ?_
            all_goals refine wAdd ?_
            all_goals refine wAssign ?_
            all_goals refine ow_nil ?_)
        | (
            refine cw_region (id := 11) rfl ?_
            all_goals refine wMove ?_
            all_goals refine wMove ?_
            all_goals refine wSlice ?_
            all_goals (refine ow_cons ?_; first | (refine st_clearR rfl selA rfl (by omega) rfl rfl rfl ?_) | (refine st_clearR rfl selA (by omega) (by omega) rfl rfl rfl ?_))
            all_goals refine ow_nil ?_)
        | (
            refine cw_region (id := 12) rfl ?_
            all_goals refine wMove ?_
            all_goals refine wMove ?_
            all_goals refine wSlice ?_
            all_goals refine wAssign ?_
            all_goals refine ow_nil ?_)
        | refine cw_seq ?_
        | refine tq_n ?_
        | (refine isCW ?_; first | refine cw_region rfl ?_ | refine cw_skip ?_ | refine cw_ret ?_ | refine cw_exit ?_ | refine cw_block ?_ | refine cTrue ?_ | refine cFalse ?_ | refine cT ?_ | refine cF ?_ | refine cS (fun hc => ?_) (fun hc => ?_) | refine cB (fun hc => ?_) (fun hc => ?_))
        | refine tq_ret ?_ | refine tq_exit ?_ | refine bq_n ?_ | refine bq_ret ?_ | refine bq_same ?_ | refine bq_ne rfl ?_
        | refine ow_cons ?_ | refine ow_nil ?_
        | (refine isOpK ?_; first
          | (refine isG ?_; first | refine opk_yes rfl rfl ?_ | refine opk_no rfl rfl ?_ | refine opk_no_undef rfl rfl ?_ | refine opk_g_t rfl rfl (by omega) ?_ | refine opk_g_f rfl rfl (by omega) ?_ | refine opk_g_s rfl rfl (fun hc => ?_) (fun hc => ?_) | refine opk_g_b rfl rfl (fun hc => ?_) (fun hc => ?_))
          | refine kRd ?_
          | refine kStore ?_
          | refine kStoreA ?_
          | refine kStoreR ?_
          | (refine kIdxR (fun g hg => ?_); subst hg)
          | (refine kIdxO (fun gb go hg => ?_); subst hg)
          | refine st_alloc (fun bN => ?_)
          | refine kBox (fun bN => ?_)
          | refine kBoxA (fun bN => ?_)
          | (refine st_buildSlice rfl rfl rfl rfl (fun bN => ?_))
          | (refine st_clearR rfl selA rfl (by omega) rfl rfl rfl ?_)
          | (refine st_clearR rfl selA (by omega) (by omega) rfl rfl rfl ?_)
          | (refine st_callV (av := [_]) rfl rfl (hp j x s hxj hd.inv) (selL_mid [_] _ [_]) ?_; rintro v L' ⟨s', ⟨rfl, hinv'⟩, rfl⟩))
        | refine hw_cons ?_ | refine hw_nil ?_
        | (refine isOpS ?_; first
          | (refine os_isG ?_; first | refine os_yes rfl rfl ?_ | refine os_no rfl rfl ?_ | refine os_no_undef rfl rfl ?_ | refine os_g_t rfl rfl (by omega) ?_ | refine os_g_f rfl rfl (by omega) ?_ | refine os_g_s rfl rfl (fun hc => ?_) (fun hc => ?_) | refine os_g_b rfl rfl (fun hc => ?_) (fun hc => ?_))
          | refine sRd ?_))
      · exact lp_end ((i + 1, j + 1), cur.set i x, s') ⟨rfl, rfl, rfl, rfl, trivial⟩ (hd.kept hxj (by simpa using hc) hinv') (by simp only; omega) (fun _ h => pickL h (selL_app (selL_mid [_] _ [_]) (.cons sel0 (.nil _))))
      · exact lp_end ((i, j + 1), cur, s') ⟨rfl, rfl, rfl, rfl, trivial⟩ (hd.gone hxj (by simpa using hc) hinv') (by simp only; omega) (fun _ h => pickL h (selL_app (selL_pre _ _) (.cons sel1 (.nil _))))
    · dsimp only [upds]
      repeat' (first
        | (
            refine cw_region (id := 0) rfl ?_
            all_goals refine wAssign ?_
            all_goals refine ow_nil ?_)
        | (
            refine cw_region (id := 2) rfl ?_
            all_goals refine wMove ?_
            all_goals refine wEql ?_
            all_goals refine ow_nil ?_)
        | (
            refine cw_region (id := 3) rfl ?_
            all_goals refine wMove ?_
            all_goals refine wAssign ?_
            all_goals refine ow_nil ?_)
        | (
            refine cw_region (id := 4) rfl ?_
            all_goals refine wMove ?_
            all_goals refine wAdd ?_
            all_goals refine wAssign ?_
            all_goals refine ow_nil ?_)
        | (
            refine cw_region (id := 5) rfl ?_
            all_goals refine wMove ?_
            all_goals refine wMove ?_
            all_goals refine wLen ?_
            all_goals refine wLss ?_
            all_goals refine ow_nil ?_)
        | (
            refine cw_region (id := 7) rfl ?_
            all_goals refine wMove ?_
            all_goals refine wMove ?_
            all_goals (refine ow_cons ?_; first | refine kIndex ?_ | (refine kIdxR (fun g hg => ?_); subst hg) | (refine kIdxO (fun gb go hg => ?_); subst hg))
            all_goals refine wLoad ?_
            all_goals (refine ow_cons ?_; refine st_alloc (fun bN => ?_))
            all_goals (refine ow_cons ?_; first | refine kStore ?_ | refine kStoreA ?_ | refine kStoreR ?_)
            all_goals refine ow_nil ?_)
        | (
            refine cw_region (id := 9) rfl ?_
            all_goals refine wMove ?_
            all_goals refine wMove ?_
            all_goals refine wLoad ?_
            all_goals (refine ow_cons ?_; first | refine kIndex ?_ | (refine kIdxR (fun g hg => ?_); subst hg) | (refine kIdxO (fun gb go hg => ?_); subst hg))
            all_goals (refine ow_cons ?_; first | refine kStore ?_ | refine kStoreA ?_ | refine kStoreR ?_)
            all_goals refine ow_nil ?_)
        | (
            refine cw_region (id := 10) rfl ?_
            all_goals refine wMove ?_
            all_goals refine wAdd ?_
            all_goals refine wAssign ?_
            all_goals refine ow_nil ?_)
        | (
            refine cw_region (id := 6) rfl ?_
            all_goals refine wMove ?_
            all_goals refine wAdd ?_
            all_goals refine wAssign ?_
            all_goals refine ow_nil ?_)
        | (
            refine cw_region (id := 11) rfl ?_
            all_goals refine wMove ?_
            all_goals refine wMove ?_
            all_goals refine wSlice ?_
            all_goals (refine ow_cons ?_; first | (refine st_clearR rfl selA rfl (by omega) rfl rfl rfl ?_) | (refine st_clearR rfl selA (by omega) (by omega) rfl rfl rfl ?_))
            all_goals refine ow_nil ?_)
        | (
            refine cw_region (id := 12) rfl ?_
            all_goals refine wMove ?_
            all_goals refine wMove ?_
            all_goals refine wSlice ?_
            all_goals refine wAssign ?_
            all_goals refine ow_nil ?_)
        | refine cw_seq ?_
        | refine tq_n ?_
        | (refine isCW ?_; first | refine cw_region rfl ?_ | refine cw_skip ?_ | refine cw_ret ?_ | refine cw_exit ?_ | refine cw_block ?_ | refine cTrue ?_ | refine cFalse ?_ | refine cT ?_ | refine cF ?_ | refine cS (fun hc => ?_) (fun hc => ?_) | refine cB (fun hc => ?_) (fun hc => ?_))
        | refine tq_ret ?_ | refine tq_exit ?_ | refine bq_n ?_ | refine bq_ret ?_ | refine bq_same ?_ | refine bq_ne rfl ?_
        | refine ow_cons ?_ | refine ow_nil ?_
        | (refine isOpK ?_; first
          | (refine isG ?_; first | refine opk_yes rfl rfl ?_ | refine opk_no rfl rfl ?_ | refine opk_no_undef rfl rfl ?_ | refine opk_g_t rfl rfl (by omega) ?_ | refine opk_g_f rfl rfl (by omega) ?_ | refine opk_g_s rfl rfl (fun hc => ?_) (fun hc => ?_) | refine opk_g_b rfl rfl (fun hc => ?_) (fun hc => ?_))
          | refine kRd ?_
          | refine kStore ?_
          | refine kStoreA ?_
          | refine kStoreR ?_
          | (refine kIdxR (fun g hg => ?_); subst hg)
          | (refine kIdxO (fun gb go hg => ?_); subst hg)
          | refine st_alloc (fun bN => ?_)
          | refine kBox (fun bN => ?_)
          | refine kBoxA (fun bN => ?_)
          | (refine st_buildSlice rfl rfl rfl rfl (fun bN => ?_))
          | (refine st_clearR rfl selA rfl (by omega) rfl rfl rfl ?_)
          | (refine st_clearR rfl selA (by omega) (by omega) rfl rfl rfl ?_))
        | refine hw_cons ?_ | refine hw_nil ?_
        | (refine isOpS ?_; first
          | (refine os_isG ?_; first | refine os_yes rfl rfl ?_ | refine os_no rfl rfl ?_ | refine os_no_undef rfl rfl ?_ | refine os_g_t rfl rfl (by omega) ?_ | refine os_g_f rfl rfl (by omega) ?_ | refine os_g_s rfl rfl (fun hc => ?_) (fun hc => ?_) | refine os_g_b rfl rfl (fun hc => ?_) (fun hc => ?_))
          | refine sRd ?_))
      have hfin : cur.take i = xs.filter (fun x => !p x) := by rw [hd.pre, List.take_of_length_le hge]
      have hil : (xs.filter (fun x => !p x)).length = i := by rw [← hfin, List.length_take]; omega
      rw [hfin]
      have hje : j = xs.length := by omega
      exact retQ_ret (retV_tmps [4] rfl rfl) ⟨s, ⟨by rw [hil]; rfl, hje ▸ hd.inv⟩, rfl⟩ (fun _ _ h => pickL h (selL_app (selL_tail [_] _) (.cons sel0 (.nil _))))
  · rw [filter_none hn]
    exact retQ_ret (retV_tmps [4] rfl rfl) ⟨s, ⟨rfl, hs⟩, rfl⟩ (fun _ _ h => h)
/-- What out$1 does to a state: the packet goes to the list, its size off the flight. -/
def St.off (s : St) (q : Pk) : St := if q.asks then { s with flight := s.flight - q.size } else s
theorem encS_off (s : St) (q : Pk) (a : Option Nat) (cap : Nat) (h : q.asks = true) : encS (s.off q) a cap = (encS s a cap).set 11 (.int .i64 (s.flight - q.size)) := by
  simp only [St.off, h, if_true]; rfl
theorem out47 (q : Pk) (c1 c2 c3 b : Nat) (fid : FuncId) [Fnc Go.Proofs.Try.prog fid] (caps : List Value) (R : Heap) (p : Pk → Bool) (s : St) (a : Option Nat) (cap : Nat) (a2 : Option Nat) (cap2 : Nat) (gone : List Pk)
    (hp : Spec Go.Proofs.Try.prog fid ([Value.agg (encPk q).toArray] ++ caps).toArray (blk b 63 (encS s a cap) :: R) (fun v L => v = .bool (p q) ∧ L = blk b 63 (encS s a cap) :: R)) (hl : gone.length ≤ 1099511627780) (hf : -4611686018427387904 ≤ s.flight ∧ s.flight ≤ 4611686018427387904) (hq : 0 ≤ q.size ∧ q.size ≤ 65535) :
    Spec Go.Proofs.Try.prog 47 #[.agg (encPk q).toArray, ptr c1, ptr c2, ptr c3] ([blk c1 71 [.func (.func fid) #[] caps.toArray], blk c2 61 [.slice (oad a2) gone.length cap2], blk c3 24 [ptr b], blk b 63 (encS s a cap), row a2 66 cap2 tPk gone] ++ R)
      (fun v L => v = .bool (p q) ∧ ∃ a' cap', L = [blk c1 71 [.func (.func fid) #[] caps.toArray], blk c2 61 [.slice (oad a') (if p q then gone ++ [q] else gone).length cap'], blk c3 24 [ptr b], blk b 63 (encS (if p q then s.off q else s) a cap), row a' 66 cap' tPk (if p q then gone ++ [q] else gone)] ++ R) := by
  refine spec_of (args := [.agg (encPk q).toArray, ptr c1, ptr c2, ptr c3]) Go.Proofs.Try.func47 rfl rfl fun w0 hw0 => ?_
  repeat' (first
    | (
        refine cw_region (id := 0) rfl ?_
        all_goals (refine ow_cons ?_; first | refine kBox (fun bN => ?_) | refine kBoxA (fun bN => ?_))
        all_goals refine wAssign ?_
        all_goals refine ow_nil ?_)
    | (
        refine cw_region (id := 1) rfl ?_
        all_goals refine wLoad ?_
        all_goals refine wLoad ?_
        all_goals (refine ow_cons ?_; (refine st_callVE (av := [_]) rfl rfl hp (.cons selA (selL_tail [_, _, _, _, _] R)) ?_; rintro v L' ⟨rfl, rfl⟩))
        all_goals refine wNot ?_
        all_goals refine ow_nil ?_)
    | (
        refine cw_region (id := 2) rfl ?_
        all_goals refine wAssign ?_
        all_goals refine ow_nil ?_)
    | (
        refine cw_region (id := 3) rfl ?_
        all_goals refine wLoad ?_
        all_goals refine wLoad ?_
        all_goals (refine ow_cons ?_; refine st_buildSlice (vs := [.int _ _, .int _ _, .int _ _, .bool _]) rfl rfl rfl rfl (fun bN => ?_))
        all_goals (refine ow_cons ?_; (refine st_append1 (τ := tPk) q rfl rfl selA selA rfl rfl rfl (by omega) (fun a' cap' => ?_)))
        all_goals (refine ow_cons ?_; first | refine kStore ?_ | refine kStoreA ?_ | refine kStoreR ?_)
        all_goals refine ow_nil ?_)
    | (
        refine cw_region (id := 4) rfl ?_
        all_goals refine wField ?_
        all_goals refine wLoad ?_
        all_goals refine ow_nil ?_)
    | (
        refine cw_draw (id := 5) 9 (by kernel_rfl) (by kernel_rfl) rfl ?_
        all_goals refine hLoad ?_
        all_goals refine hCheck ?_
        all_goals refine hField ?_
        all_goals refine hLoad ?_
        all_goals refine hField ?_
        all_goals refine hLoad ?_
        all_goals refine hSub ?_
        all_goals refine hCheck ?_
        all_goals refine hField ?_
        all_goals refine hw_nil ?_
        all_goals (refine ow_cons ?_; first | refine kStore ?_ | refine kStoreA ?_ | refine kStoreR ?_)
        all_goals refine ow_nil ?_)
    | (
        refine cw_region (id := 6) rfl ?_
        all_goals refine wAssign ?_
        all_goals refine ow_nil ?_)
    | refine cw_seq ?_
    | refine tq_n ?_
    | refine cw_skip ?_ | refine cw_ret ?_ | refine cw_exit ?_ | refine cw_block ?_ | refine cTrue ?_ | refine cFalse ?_ | refine cT ?_ | refine cF ?_ | refine cS (fun hc => ?_) (fun hc => ?_) | refine cB (fun hc => ?_) (fun hc => ?_)
    | refine tq_ret ?_ | refine tq_exit ?_ | refine bq_n ?_ | refine bq_ret ?_ | refine bq_same ?_ | refine bq_ne rfl ?_)
  · have hp0 : p q = false := by simpa using hc
    simp only [hp0, Bool.false_eq_true, if_false]
    exact retQ_ret (retV_tmps [5] rfl rfl) ⟨rfl, a2, cap2, rfl⟩ (fun _ _ h => pickL h (.cons selA (.cons selA (.cons selA (.cons selA (.cons selA (selL_tail [_] _)))))))
  · rename_i hc1
    have hp0 : p q = true := by simpa using hc1
    simp only [hp0, if_true, encS_off s q a cap hc]
    exact retQ_ret (retV_tmps [5] rfl rfl) ⟨rfl, a', cap', rfl⟩ (fun _ _ h => pickL h (.cons selA (.cons selA (.cons selA (.cons selA (.cons selA (selL_tail [_] _)))))))
  · rename_i hc1
    have hp0 : p q = true := by simpa using hc1
    have hs0 : s.off q = s := by simp [St.off, hc]
    simp only [hp0, if_true, hs0]
    exact retQ_ret (retV_tmps [5] rfl rfl) ⟨rfl, a', cap', rfl⟩ (fun _ _ h => pickL h (.cons selA (.cons selA (.cons selA (.cons selA (.cons selA (selL_tail [_] _)))))))
def offs (s : St) (l : List Pk) : St := l.foldl St.off s
theorem offs_snoc (s : St) (l : List Pk) (q : Pk) : offs s (l ++ [q]) = (offs s l).off q := by simp [offs]
theorem offs_waits (s : St) (l : List Pk) : (offs s l).waits = s.waits := by
  induction l generalizing s with
  | nil => rfl
  | cons q l ih => simp only [offs, List.foldl_cons] at *; rw [ih]; unfold St.off; split <;> rfl
theorem offs_flight (s : St) (l : List Pk) (h : ∀ q ∈ l, 0 ≤ q.size ∧ q.size ≤ 65535) : s.flight - 65535 * l.length ≤ (offs s l).flight ∧ (offs s l).flight ≤ s.flight := by
  induction l generalizing s with
  | nil => simp [offs]
  | cons q l ih =>
    have h1 := ih (s.off q) (fun x hx => h x (by simp [hx]))
    have h2 := h q (by simp)
    have h3 : s.flight - 65535 ≤ (s.off q).flight ∧ (s.off q).flight ≤ s.flight := by unfold St.off; split <;> (try dsimp only) <;> omega
    have h4 : offs s (q :: l) = offs (s.off q) l := rfl
    rw [h4, List.length_cons]; omega
/-- What a state's predicate may look at: all but the flight. -/
def sameBut (s s' : St) : Prop := s' = { s with flight := s'.flight }
theorem off_same (s : St) (q : Pk) : sameBut s (s.off q) := by unfold sameBut St.off; split <;> rfl
theorem offs_same (s : St) (l : List Pk) : sameBut s (offs s l) := by
  induction l generalizing s with
  | nil => rfl
  | cons q l ih =>
    have h1 : sameBut (s.off q) (offs (s.off q) l) := ih (s.off q)
    have h2 := off_same s q
    have h4 : offs s (q :: l) = offs (s.off q) l := rfl
    unfold sameBut at *; rw [h4, h1, h2]
def outF (c1 c2 c3 b : Nat) (f : Value) (R : Heap) (s : St) (a : Option Nat) (cap : Nat) (gone : List Pk) (a' : Option Nat) (cap' : Nat) : Heap :=
  [blk c1 71 [f], blk c2 61 [.slice (oad a') gone.length cap'], blk c3 24 [ptr b], blk b 63 (encS (offs s gone) a cap), row a' 66 cap' tPk gone] ++ R
theorem del47 (c1 c2 c3 b : Nat) (fid : FuncId) [Fnc Go.Proofs.Try.prog fid] (caps : List Value) (R : Heap) (p : Pk → Bool) (s : St) (a : Option Nat) (cap : Nat)
    (hp : ∀ q ∈ s.waits, ∀ s', sameBut s s' → Spec Go.Proofs.Try.prog fid ([Value.agg (encPk q).toArray] ++ caps).toArray (blk b 63 (encS s' a cap) :: R) (fun v L => v = .bool (p q) ∧ L = blk b 63 (encS s' a cap) :: R))
    (hl : s.waits.length ≤ 1099511627779) (hf : 0 ≤ s.flight ∧ s.flight ≤ 4611686018427387904) (hq : ∀ q ∈ s.waits, 0 ≤ q.size ∧ q.size ≤ 65535) :
    Spec Go.Proofs.Try.prog 46 #[.slice (oad a) s.waits.length cap, .func (.func 47) #[] #[ptr c1, ptr c2, ptr c3]] (outF c1 c2 c3 b (.func (.func fid) #[] caps.toArray) R s a cap [] none 0 ++ [row a 66 cap tPk s.waits])
      (fun v L => ∃ a' cap', v = .slice (oad a) (s.waits.filter (fun x => !p x)).length cap ∧ L = outF c1 c2 c3 b (.func (.func fid) #[] caps.toArray) R s a cap (s.waits.filter p) a' cap' ++ [row a 66 cap tPk (s.waits.filter (fun x => !p x))]) := by
  refine (delete46 (fid := 47) [ptr c1, ptr c2, ptr c3] a cap s.waits p (σ := Nat × Option Nat × Nat) (fun g => outF c1 c2 c3 b (.func (.func fid) #[] caps.toArray) R s a cap ((s.waits.take g.1).filter p) g.2.1 g.2.2) (fun k g => g.1 = k) (by omega) ?_ ?_ (0, none, 0) rfl).mono ?_
  · rintro _ q ⟨k, a', cap'⟩ hk rfl
    simp only at hk
    have hmem := List.mem_of_getElem? hk
    have hlen : ((s.waits.take k).filter p).length ≤ s.waits.length := Nat.le_trans (List.length_filter_le _ _) (List.length_take_le' _ _)
    have hfl := offs_flight s ((s.waits.take k).filter p) (fun x hx => hq x (List.mem_of_mem_take (List.mem_filter.1 hx).1))
    refine (out47 q c1 c2 c3 b fid caps R p (offs s ((s.waits.take k).filter p)) a cap a' cap' ((s.waits.take k).filter p) (hp q hmem _ (offs_same _ _)) (by omega) (by omega) (hq q hmem)).mono ?_
    rintro v L ⟨rfl, a2, cap2, rfl⟩
    refine ⟨(k + 1, a2, cap2), ⟨rfl, rfl⟩, ?_⟩
    have ht : (s.waits.take (k + 1)).filter p = if p q then (s.waits.take k).filter p ++ [q] else (s.waits.take k).filter p := by
      rw [take_snoc hk, List.filter_append]; cases hpq : p q <;> simp [hpq]
    simp only [outF, ht]
    cases hpq : p q
    · simp
    · simp [offs_snoc]
  · rintro g g' z hz b' hb
    rcases List.mem_append.1 hz with hz | hz
    · simp only [List.mem_cons, List.not_mem_nil, or_false] at hz
      rcases hz with rfl | rfl | rfl | rfl | rfl <;> exact hb.elim
    · exact ⟨z, List.mem_append_right _ hz, hb⟩
  · rintro v L ⟨⟨k, a', cap'⟩, ⟨rfl, hk⟩, rfl⟩
    simp only at hk
    subst hk
    exact ⟨a', cap', rfl, by rw [List.take_length]⟩
def St.outS (s : St) (p : Pk → Bool) : St := { offs s (s.waits.filter p) with waits := s.waits.filter (fun x => !p x) }
theorem out29 (b : Nat) (fid : FuncId) [Fnc Go.Proofs.Try.prog fid] (caps : List Value) (R : Heap) (p : Pk → Bool) (s : St) (a : Option Nat) (cap : Nat)
    (hp : ∀ q ∈ s.waits, ∀ s', sameBut s s' → Spec Go.Proofs.Try.prog fid ([Value.agg (encPk q).toArray] ++ caps).toArray (blk b 63 (encS s' a cap) :: R) (fun v L => v = .bool (p q) ∧ L = blk b 63 (encS s' a cap) :: R))
    (hl : s.waits.length ≤ 1099511627779) (hf : 0 ≤ s.flight ∧ s.flight ≤ 4611686018427387904) (hq : ∀ q ∈ s.waits, 0 ≤ q.size ∧ q.size ≤ 65535) :
    Spec Go.Proofs.Try.prog 29 #[ptr b, .func (.func fid) #[] caps.toArray] (stR b s a cap ++ R)
      (fun v L => ∃ a' cap', v = .slice (oad a') (s.waits.filter p).length cap' ∧ L = stR b (s.outS p) a cap ++ ([row a' 66 cap' tPk (s.waits.filter p)] ++ R)) := by
  refine spec_of (args := [ptr b, .func (.func fid) #[] caps.toArray]) Go.Proofs.Try.func29 rfl rfl fun w0 hw0 => ?_
  refine CW.addNil 66 tPk ?_
  unfold stR
  repeat' (first
    | (
        refine cw_region (id := 0) rfl ?_
        all_goals (refine ow_cons ?_; first | refine kBox (fun bN => ?_) | refine kBoxA (fun bN => ?_))
        all_goals (refine ow_cons ?_; first | refine kBox (fun bN => ?_) | refine kBoxA (fun bN => ?_))
        all_goals refine wAssign ?_
        all_goals refine ow_nil ?_)
    | (
        refine cw_region (id := 1) rfl ?_
        all_goals (refine ow_cons ?_; refine st_alloc (fun bN => ?_))
        all_goals refine ow_nil ?_)
    | (
          refine cw_drawX (id := 2) (.cons sel2 (.nil _)) (by kernel_rfl) rfl ?_
          repeat' (first
            | (refine ax_take (done := []) 0 rfl (by kernel_rfl) (.cons selA (.nil _)) ?_; refine sLoad ?_)
            | (refine ax_take (done := [0]) 1 rfl (by kernel_rfl) (.cons selA (.nil _)) ?_; refine sLoad ?_)
            | (refine ax_take (done := [1, 0]) 2 rfl (by kernel_rfl) (.cons selA (.nil _)) ?_; refine sCheck ?_)
            | (refine ax_take (done := [2, 1, 0]) 3 rfl (by kernel_rfl) (.cons selA (.nil _)) ?_; refine sField ?_)
            | (refine ax_take (done := [3, 2, 1, 0]) 5 rfl (by kernel_rfl) (.cons selA (.nil _)) ?_; refine sFunc ?_)
            | (refine ax_one (done := [5, 3, 2, 1, 0]) 4 rfl (by kernel_rfl) (.cons selA (.nil _)) ?_; refine kLoad ?_)
            | (refine ax_one (done := [4, 5, 3, 2, 1, 0]) 6 rfl (by kernel_rfl) (.cons selA (.nil _)) ?_; (refine st_callE (av := [_, _]) rfl (del47 _ _ _ b fid caps R p s a cap hp hl hf hq) (selL_app (.cons selA (.cons selA (.cons selA (.cons selA (.cons selA (selL_tail [_] _)))))) (.cons sel0 (.nil _))) ?_; rintro v L' ⟨a', cap', rfl, rfl⟩))
            | (refine ax_take (done := [6, 4, 5, 3, 2, 1, 0]) 7 rfl (by kernel_rfl) (.cons selA (.nil _)) ?_; refine sCheck ?_)
            | (refine ax_take (done := [7, 6, 4, 5, 3, 2, 1, 0]) 8 rfl (by kernel_rfl) (.cons selA (.nil _)) ?_; refine sField ?_)
            | (refine ax_one (done := [8, 7, 6, 4, 5, 3, 2, 1, 0]) 9 rfl (by kernel_rfl) (.cons selA (.nil _)) ?_; first | refine kStore ?_ | refine kStoreA ?_ | refine kStoreR ?_)
            | refine ax_done (done := [9, 8, 7, 6, 4, 5, 3, 2, 1, 0]) (by kernel_rfl) (.cons selA (.nil _)) ?_))
    | (
        refine cw_region (id := 3) rfl ?_
        all_goals refine wLoad ?_
        all_goals refine wAssign ?_
        all_goals refine ow_nil ?_)
    | refine cw_seq ?_
    | refine tq_n ?_
    | refine cw_skip ?_ | refine cw_ret ?_ | refine cw_exit ?_ | refine cw_block ?_ | refine cTrue ?_ | refine cFalse ?_ | refine cT ?_ | refine cF ?_ | refine cS (fun hc => ?_) (fun hc => ?_) | refine cB (fun hc => ?_) (fun hc => ?_)
    | refine tq_ret ?_ | refine tq_exit ?_ | refine bq_n ?_ | refine bq_ret ?_ | refine bq_same ?_ | refine bq_ne rfl ?_)
  exact retQ_ret (retV_tmps [4] rfl rfl) ⟨a', cap', rfl, rfl⟩ (fun _ _ h => pickL h (.cons sel0 (.cons (sel_app [_, _, _, _] (sel_end _ _)) (.cons sel3 (selL_tail [_, _, _] _)))))
end Go.Proofs.Ytomaldjedncjoaa.E
