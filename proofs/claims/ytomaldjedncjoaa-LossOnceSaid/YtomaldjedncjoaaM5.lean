/-
The layer 'loss': what is told, and told once. Plain Lean, no program in sight.
Conditions: each is said with its statement.
-/
import Derived.Test.YtomaldjedncjoaaM4
set_option linter.unusedVariables false
namespace Go.Proofs.Ytomaldjedncjoaa.E
open Go
/-- Those that weren't told: number and size. -/
def un : Nat → List (Int × Bool) → List (Int × Int)
  | _, [] => []
  | i, (z, t) :: r => if t then un (i + 1) r else ((i : Int), z) :: un (i + 1) r
theorem un_append (l : List (Int × Bool)) (z : Int) : ∀ i, un i (l ++ [(z, false)]) = un i l ++ [(((i + l.length : Nat) : Int), z)] := by
  induction l with
  | nil => intro i; simp [un]
  | cons x l ih =>
    intro i
    obtain ⟨y, t⟩ := x
    simp only [List.cons_append, un, List.length_cons]
    have : i + 1 + l.length = i + (l.length + 1) := by omega
    cases t <;> simp [ih, this]
theorem un_ge (l : List (Int × Bool)) : ∀ i p, p ∈ un i l → (i : Int) ≤ p.1 ∧ p.1 < i + l.length := by
  induction l with
  | nil => intro i p h; cases h
  | cons x l ih =>
    intro i p h
    obtain ⟨y, t⟩ := x
    simp only [un] at h
    simp only [List.length_cons]
    cases t
    · simp only [Bool.false_eq_true, if_false, List.mem_cons] at h
      rcases h with rfl | h
      · simp only; omega
      · have := ih (i + 1) p h; omega
    · simp only [if_true] at h
      have := ih (i + 1) p h; omega
theorem un_get (l : List (Int × Bool)) : ∀ i p, p ∈ un i l → ∃ j : Nat, p.1 = ((i + j : Nat) : Int) ∧ l[j]? = some (p.2, false) := by
  induction l with
  | nil => intro i p h; cases h
  | cons x l ih =>
    intro i p h
    obtain ⟨y, t⟩ := x
    simp only [un] at h
    cases t
    · simp only [Bool.false_eq_true, if_false, List.mem_cons] at h
      rcases h with rfl | h
      · exact ⟨0, rfl, rfl⟩
      · obtain ⟨j, h1, h2⟩ := ih (i + 1) p h
        exact ⟨j + 1, by rw [h1]; congr 1; omega, h2⟩
    · simp only [if_true] at h
      obtain ⟨j, h1, h2⟩ := ih (i + 1) p h
      exact ⟨j + 1, by rw [h1]; congr 1; omega, h2⟩
theorem un_set (l : List (Int × Bool)) : ∀ (i j : Nat) (z : Int), l[j]? = some (z, false) → un i (l.set j (z, true)) = (un i l).filter fun p => decide (p.1 ≠ ((i + j : Nat) : Int)) := by
  induction l with
  | nil => intro i j z h; simp at h
  | cons x l ih =>
    intro i j z h
    obtain ⟨y, t⟩ := x
    cases j with
    | zero =>
      simp only [List.getElem?_cons_zero, Option.some.injEq, Prod.mk.injEq] at h
      obtain ⟨rfl, rfl⟩ := h
      simp only [List.set_cons_zero, un, if_true, Bool.false_eq_true, if_false]
      rw [List.filter_cons, if_neg (by simp)]
      exact (List.filter_eq_self.2 fun p hp => by have := un_ge l (i + 1) p hp; simp; omega).symm
    | succ j =>
      have ih' := ih (i + 1) j z (by simpa using h)
      have hij : i + 1 + j = i + (j + 1) := by omega
      rw [hij] at ih'
      simp only [List.set_cons_succ, un]
      cases t
      · simp only [Bool.false_eq_true, if_false]
        rw [List.filter_cons, if_pos (by simp; omega), ih']
      · simp only [if_true]; exact ih'
/-- The sizes of those that weren't told. -/
def sf : List (Int × Bool) → Int
  | [] => 0
  | (z, t) :: r => (if t then 0 else z) + sf r
theorem sf_append (l m : List (Int × Bool)) : sf (l ++ m) = sf l + sf m := by
  induction l with
  | nil => simp [sf]
  | cons x l ih => obtain ⟨y, t⟩ := x; simp only [List.cons_append, sf, ih]; omega
theorem sf_un (l : List (Int × Bool)) : ∀ i, ((un i l).map (·.2)).sum = sf l := by
  induction l with
  | nil => intro i; rfl
  | cons x l ih =>
    intro i; obtain ⟨y, t⟩ := x
    simp only [un, sf]
    cases t <;> simp [ih]
theorem sf_bound (l : List (Int × Bool)) (h : ∀ x ∈ l, 0 ≤ x.1 ∧ x.1 ≤ 2000) : 0 ≤ sf l ∧ sf l ≤ 2000 * l.length := by
  induction l with
  | nil => simp [sf]
  | cons x l ih =>
    obtain ⟨y, t⟩ := x
    have h1 := ih fun x hx => h x (by simp [hx])
    have h2 := h (y, t) (by simp)
    simp only [sf, List.length_cons] at *
    split <;> omega
theorem fl_sum (l : List Pk) (h : ∀ q ∈ l, q.asks = true) : fl l = ((l.map fun q => (q.number, q.size)).map (·.2)).sum := by
  induction l with
  | nil => rfl
  | cons q l ih =>
    have h1 := ih fun x hx => h x (by simp [hx])
    have h2 := h q (by simp)
    simp [fl, h2, h1]

/-! ### What a call tells -/
structure Tells (s s2 : St) (ns : List Int) : Prop where
  nd : ns.Nodup
  mem : ∀ n ∈ ns, ∃ q ∈ s.waits, q.number = n
  rest : s2.waits = s.waits.filter fun q => decide (q.number ∉ ns)
  len : ns.length ≤ 2 * s.waits.length
  top : s2.top = s.top
theorem order_inj {l : List Pk} (h : l.Pairwise fun q r => q.number < r.number) {q r : Pk} (hq : q ∈ l) (hr : r ∈ l) (he : q.number = r.number) : q = r := by
  induction l with
  | nil => cases hq
  | cons x l ih =>
    obtain ⟨h1, h2⟩ := List.pairwise_cons.1 h
    rcases List.mem_cons.1 hq with e1 | hq' <;> rcases List.mem_cons.1 hr with e2 | hr'
    · rw [e1, e2]
    · have := h1 r hr'; rw [e1] at he; omega
    · have := h1 q hq'; rw [e2] at he; omega
    · exact ih h2 hq' hr'
theorem order_nodup {l : List Pk} (h : l.Pairwise fun q r => q.number < r.number) : (l.map (·.number)).Nodup := by
  rw [List.Nodup, List.pairwise_map]
  exact h.imp fun h => by omega
theorem filter_not {l : List Pk} (h : l.Pairwise fun q r => q.number < r.number) (p : Pk → Bool) {ns : List Int} (hn : ∀ n, n ∈ ns ↔ ∃ q ∈ l, p q = true ∧ q.number = n) : l.filter (fun q => !p q) = l.filter fun q => decide (q.number ∉ ns) := by
  refine List.filter_congr fun q hq => ?_
  have : q.number ∈ ns ↔ p q = true := by
    rw [hn]
    constructor
    · rintro ⟨r, hr, hp, he⟩
      rw [← order_inj h hr hq he]; exact hp
    · intro hp; exact ⟨q, hq, hp, rfl⟩
  rw [Bool.eq_iff_iff]
  simp [this]
theorem takes_fields (s : St) (came : List Pk) (delay : Int) : (s.takes came delay).waits = s.waits ∧ (s.takes came delay).top = s.top ∧ (s.takes came delay).now = s.now := by
  unfold St.takes
  split
  · exact ⟨rfl, rfl, rfl⟩
  · rename_i l hl
    have hg : ∀ (l : List Pk) (s : St), (l.foldl St.grow s).top = s.top ∧ (l.foldl St.grow s).now = s.now := by
      intro l
      induction l with
      | nil => intro s; exact ⟨rfl, rfl⟩
      | cons q l ih => intro s; rw [List.foldl_cons, (ih _).1, (ih _).2, grow_fields]; exact ⟨rfl, rfl⟩
    have ht : (s.takes1 l came delay).waits = s.waits ∧ (s.takes1 l came delay).top = s.top ∧ (s.takes1 l came delay).now = s.now := by
      unfold St.takes1
      split
      · split
        · exact ⟨(sample_fields _ _ _).1, (sample_fields _ _ _).2.1, (sample_fields _ _ _).2.2.2⟩
        · exact ⟨rfl, rfl, rfl⟩
      · exact ⟨rfl, rfl, rfl⟩
    exact ⟨(foldl_waits came _).trans ht.1, (hg came _).1.trans ht.2.1, (hg came _).2.trans ht.2.2⟩
theorem give_top (s : St) (t : Int) : (s.give t).top = s.top := by
  unfold St.give
  rw [outS_eq]
  unfold St.cut
  split
  · split <;> rfl
  · rfl
/-- Given up: told. -/
theorem give_tells {s : St} (ok : s.Ok) (t : Int) : Tells s (s.give t) ((s.waits.filter (s.lost t)).map (·.number)) := by
  have hmem : ∀ n, n ∈ (s.waits.filter (s.lost t)).map (·.number) ↔ ∃ q ∈ s.waits, s.lost t q = true ∧ q.number = n := fun n => by
    simp only [List.mem_map, List.mem_filter, and_assoc]
  refine ⟨order_nodup (ok.order.sublist List.filter_sublist), fun n hn => ?_, ?_, ?_, give_top s t⟩
  · obtain ⟨q, hq, _, he⟩ := (hmem n).1 hn
    exact ⟨q, hq, he⟩
  · rw [(give_fields s t).1, filter_not ok.order _ hmem]
  · rw [List.length_map]
    have := List.length_filter_le (s.lost t) s.waits
    omega
theorem fire_tells {s s2 : St} (ok : s.Ok) {t : Int} {ns : List Int} {y : Bool} (h : s.fire t = (s2, ns, y, 0)) : Tells s s2 ns ∧ s2.now = t := by
  unfold St.fire at h
  split at h
  · rename_i hc
    have ok1 := now_ok ok hc
    have hnone : ∀ s3 : St, s3.waits = s.waits → s3.top = s.top → s3.now = t → Tells s s3 [] ∧ s3.now = t := fun s3 h1 h2 h3 => ⟨⟨List.nodup_nil, fun n hn => (by cases hn), by rw [h1]; exact (List.filter_eq_self.2 fun q _ => by simp).symm, by simp, h2⟩, h3⟩
    split at h
    · injection h with h1 h; injection h with h2 h
      subst h1; subst h2
      exact hnone _ rfl rfl rfl
    split at h
    · injection h with h1 h; injection h with h2 h
      subst h1; subst h2
      have := give_tells ok1 t
      exact ⟨⟨this.nd, this.mem, this.rest, this.len, this.top⟩, (give_fields _ _).2.2.2.2.2.2⟩
    · injection h with h1 h; injection h with h2 h
      subst h1; subst h2
      exact hnone _ rfl rfl rfl
  · injection h with h1 h; injection h with h2 h; injection h with h3 h4; cases h4
theorem acked_tells {s s2 : St} (ok : s.Ok) {xs : List Sp} {delay t : Int} {ca lo : List Int} (h : s.acked xs delay t = (s2, ca, lo, 0)) : Tells s s2 (ca ++ lo) ∧ s2.now = t ∧ ca.length ≤ s.waits.length ∧ lo.length ≤ s.waits.length := by
  unfold St.acked at h
  split at h
  · injection h with h1 h; injection h with h2 h; injection h with h3 h4; cases h4
  split at h
  · rename_i hb
    injection h with h1 h; injection h with h2 h; injection h with h3 h4
    exact absurd h4 hb
  rename_i hc _
  have ht : s.now ≤ t ∧ t ≤ 1099511627776 := by omega
  have ok1 := now_ok ok ht
  have ok2 := outS_ok ok1 fun q => inSp xs q.number
  simp only at h
  have hw2 : (({ s with now := t } : St).outS fun q => inSp xs q.number).waits = s.waits.filter fun q => !inSp xs q.number := rfl
  have htop2 : (({ s with now := t } : St).outS fun q => inSp xs q.number).top = s.top := by rw [outS_eq]
  have hnow2 : (({ s with now := t } : St).outS fun q => inSp xs q.number).now = t := by rw [outS_eq]
  have hcm : ∀ q ∈ ({ s with now := t } : St).came xs, q.Ok (({ s with now := t } : St).outS fun q => inSp xs q.number).now (({ s with now := t } : St).outS fun q => inSp xs q.number).top := fun q hq => by
    rw [htop2, hnow2]; exact ok1.each q (List.mem_filter.1 hq).1
  have hce : ({ s with now := t } : St).came xs = s.waits.filter fun q => inSp xs q.number := rfl
  have ok3 := takes_ok (came := ({ s with now := t } : St).came xs) ok2 hcm (delay := delay) (by omega)
  obtain ⟨f1, f2, f3⟩ := takes_fields (({ s with now := t } : St).outS fun q => inSp xs q.number) (({ s with now := t } : St).came xs) delay
  generalize (({ s with now := t } : St).outS fun q => inSp xs q.number).takes (({ s with now := t } : St).came xs) delay = s3 at h ok3 f1 f2 f3
  rw [hw2] at f1
  rw [htop2] at f2
  have hg := give_tells ok3 t
  injection h with h1 h; injection h with h2 h; injection h with h3 h4
  subst h1
  have hnow : (s3.give t).now = s3.now := (give_fields _ _).2.2.2.2.2.2
  have hn3 : s3.now = t := by rw [f3, hnow2]
  rw [h3] at hg
  rw [hce] at h2
  have hmas : ∀ n, n ∈ ca ↔ ∃ q ∈ s.waits, inSp xs q.number = true ∧ q.number = n := fun n => by
    rw [← h2]; simp only [List.mem_map, List.mem_filter, and_assoc]
  have hla : ca.length ≤ s.waits.length := by rw [← h2, List.length_map]; exact List.length_filter_le _ _
  have hl3 : s3.waits.length ≤ s.waits.length := by rw [f1]; exact List.length_filter_le _ _
  have hlb : lo.length ≤ s.waits.length := by rw [← h3, List.length_map]; exact Nat.le_trans (List.length_filter_le _ _) hl3
  have hmb : ∀ n ∈ lo, ∃ q ∈ s.waits, inSp xs q.number = false ∧ q.number = n := fun n hn => by
    obtain ⟨q, hq, he⟩ := hg.mem n hn
    rw [f1, List.mem_filter] at hq
    exact ⟨q, hq.1, by simpa using hq.2, he⟩
  refine ⟨⟨?_, ?_, ?_, by simp only [List.length_append]; omega, ?_⟩, by rw [hnow, hn3], hla, hlb⟩
  · rw [List.nodup_append]
    refine ⟨by rw [← h2]; exact order_nodup (ok.order.sublist List.filter_sublist), hg.nd, fun x hx y hy he => ?_⟩
    subst he
    obtain ⟨q, hq, hi, he⟩ := (hmas x).1 hx
    obtain ⟨r, hr, hj, he'⟩ := hmb x hy
    rw [he] at hi; rw [he'] at hj; rw [hi] at hj; cases hj
  · intro n hn
    rcases List.mem_append.1 hn with hn | hn
    · obtain ⟨q, hq, _, he⟩ := (hmas n).1 hn; exact ⟨q, hq, he⟩
    · obtain ⟨q, hq, _, he⟩ := hmb n hn; exact ⟨q, hq, he⟩
  · rw [hg.rest, f1, filter_not ok.order _ hmas, List.filter_filter]
    refine List.filter_congr fun q _ => ?_
    rw [Bool.eq_iff_iff]; simp [not_or, and_comm]
  · rw [give_top, f2]

/-! ### The law's own books -/
structure OnceI (s : St) (l : List (Int × Bool)) (now : Int) : Prop where
  ok : s.Ok
  asks : ∀ q ∈ s.waits, q.asks = true
  waits : s.waits.map (fun q => (q.number, q.size)) = un 0 l
  top : s.top = (l.length : Int) - 1
  nowb : s.now ≤ now ∧ 0 ≤ now ∧ now ≤ 1099511627776
  sizes : ∀ x ∈ l, 0 ≤ x.1 ∧ x.1 ≤ 2000
structure MidI (s : St) (l : List (Int × Bool)) (ns : List Int) (now : Int) : Prop where
  ok : s.Ok
  asks : ∀ q ∈ s.waits, q.asks = true
  waits : s.waits.map (fun q => (q.number, q.size)) = (un 0 l).filter fun p => decide (p.1 ∉ ns)
  nd : ns.Nodup
  mem : ∀ n ∈ ns, ∃ z, (n, z) ∈ un 0 l
  top : s.top = (l.length : Int) - 1
  nowb : s.now ≤ now ∧ 0 ≤ now ∧ now ≤ 1099511627776
  sizes : ∀ x ∈ l, 0 ≤ x.1 ∧ x.1 ≤ 2000
  len : ns.length ≤ 4398046511104
theorem once_new : OnceI newS [] 0 := ⟨new_ok, fun q hq => (by cases hq), rfl, rfl, by decide, fun x hx => (by cases hx)⟩
theorem OnceI.later {s : St} {l : List (Int × Bool)} {now t : Int} (h : OnceI s l now) (ht : now ≤ t ∧ t ≤ 1099511627776) : OnceI s l t := ⟨h.ok, h.asks, h.waits, h.top, by have := h.nowb; omega, h.sizes⟩
theorem once_tells {s s2 : St} {l : List (Int × Bool)} {ns : List Int} {now : Int} (h : OnceI s l now) (ht : Tells s s2 ns) (ok2 : s2.Ok) (hn : s2.now = now) : MidI s2 l ns now := by
  refine ⟨ok2, fun q hq => h.asks q (by rw [ht.rest] at hq; exact (List.mem_filter.1 hq).1), ?_, ht.nd, fun n hn => ?_, by rw [ht.top, h.top], by have := h.nowb; omega, h.sizes, by have := ht.len; have := h.ok.len; omega⟩
  · rw [ht.rest, ← h.waits, List.filter_map]; rfl
  · obtain ⟨q, hq, he⟩ := ht.mem n hn
    refine ⟨q.size, ?_⟩
    rw [← h.waits, List.mem_map]
    exact ⟨q, hq, by rw [he]⟩
theorem mid_none {s : St} {l : List (Int × Bool)} {now : Int} (h : OnceI s l now) : MidI s l [] now :=
  ⟨h.ok, h.asks, by rw [h.waits]; exact (List.filter_eq_self.2 fun q _ => by simp).symm, List.nodup_nil, fun n hn => (by cases hn), h.top, h.nowb, h.sizes, by simp⟩
theorem once_good {s : St} {l : List (Int × Bool)} {now n : Int} (h : OnceI s l now) (hn : 1 ≤ n ∧ n ≤ 2000) (hl : l.length ≤ 1000) : ¬ sentBad s l.length n now := by
  have h1 := h.top
  have h2 := h.nowb
  unfold sentBad; omega
theorem once_sent {s : St} {l : List (Int × Bool)} {now n : Int} (h : OnceI s l now) (hn : 1 ≤ n ∧ n ≤ 2000) (hl : l.length ≤ 1000) : OnceI (s.sent l.length n true now) (l ++ [(n, false)]) now := by
  refine ⟨sent_ok h.ok (once_good h hn hl), fun q hq => ?_, ?_, ?_, ?_, fun x hx => ?_⟩
  · rcases List.mem_append.1 hq with hq | hq
    · exact h.asks q hq
    · obtain rfl := List.mem_singleton.1 hq; rfl
  · show (s.waits ++ [_]).map _ = _
    rw [List.map_append, h.waits, un_append]
    simp
  · show (l.length : Int) = _
    simp
  · have := h.nowb
    exact ⟨Int.le_refl _, this.2⟩
  · rcases List.mem_append.1 hx with hx | hx
    · exact h.sizes x hx
    · obtain rfl := List.mem_singleton.1 hx; simp only; omega
/-- One told after the other. -/
theorem upd_self_list {α : Type} {l : List α} {k : Nat} {x : α} (h : l[k]? = some x) : l = l.set k x := by
  apply List.ext_getElem?
  intro i
  by_cases hi : i = k
  · subst hi; rw [List.getElem?_set_self (List.getElem?_eq_some_iff.1 h).1, h]
  · rw [List.getElem?_set_ne (by omega)]
structure TellI (l l' : List (Int × Bool)) (ns : List Int) (j : Nat) : Prop where
  un : un 0 l' = (un 0 l).filter fun p => decide (p.1 ∉ ns.take j)
  fst : l'.map (·.1) = l.map (·.1)
theorem tell_0 (l : List (Int × Bool)) (ns : List Int) : TellI l l ns 0 := ⟨(List.filter_eq_self.2 fun q _ => by simp).symm, rfl⟩
theorem tell_step {s : St} {l l' : List (Int × Bool)} {ns : List Int} {now : Int} (h : MidI s l ns now) {j : Nat} (ht : TellI l l' ns j) {n : Int} (hn : ns[j]? = some n) :
    ∃ (k : Nat) (z : Int), n = (k : Int) ∧ l'[k]? = some (z, false) ∧ TellI l (l'.set k (z, true)) ns (j + 1) := by
  obtain ⟨z, hz⟩ := h.mem n (List.mem_of_getElem? hn)
  have hnt : n ∉ ns.take j := fun hm => by
    have hnd := h.nd
    have hj := (List.getElem?_eq_some_iff.1 hn).1
    obtain ⟨i, hi⟩ := List.mem_iff_getElem?.1 hm
    rw [List.getElem?_take] at hi
    split at hi
    · rename_i hij
      have hil := (List.getElem?_eq_some_iff.1 hi).1
      have h1 := (List.getElem?_eq_some_iff.1 hi).2
      have h2 := (List.getElem?_eq_some_iff.1 hn).2
      have := (List.nodup_iff_pairwise_ne.1 hnd)
      have := List.pairwise_iff_getElem.1 this i j hil hj hij
      rw [h1, h2] at this
      exact this rfl
    · cases hi
  have hz' : (n, z) ∈ E.un 0 l' := by
    rw [ht.un, List.mem_filter]
    exact ⟨hz, by simpa using hnt⟩
  obtain ⟨k, hk, hl⟩ := un_get l' 0 (n, z) hz'
  simp only [Nat.zero_add] at hk hl
  refine ⟨k, z, hk, hl, ?_, ?_⟩
  · rw [un_set l' 0 k z hl, ht.un, List.filter_filter]
    refine List.filter_congr fun p _ => ?_
    rw [take_snoc hn, Nat.zero_add, ← hk, Bool.eq_iff_iff]
    simp [not_or, and_comm]
  · rw [← ht.fst, List.map_set]
    simp only
    have : (l'.map (·.1))[k]? = some z := by rw [List.getElem?_map, hl]; rfl
    exact (upd_self_list this).symm
theorem tell_end {s : St} {l l' : List (Int × Bool)} {ns : List Int} {now : Int} (h : MidI s l ns now) {j : Nat} (hj : ns.length ≤ j) (ht : TellI l l' ns j) : OnceI s l' now ∧ s.flight = sf l' ∧ l'.length = l.length := by
  have hlen : l'.length = l.length := by
    have := congrArg List.length ht.fst
    simpa using this
  have hw : s.waits.map (fun q => (q.number, q.size)) = un 0 l' := by rw [h.waits, ht.un, List.take_of_length_le hj]
  refine ⟨⟨h.ok, h.asks, hw, by rw [h.top, hlen], h.nowb, fun x hx => ?_⟩, ?_, hlen⟩
  · have h1 : x.1 ∈ l'.map (·.1) := List.mem_map.2 ⟨x, hx, rfl⟩
    rw [ht.fst] at h1
    obtain ⟨y, hy, he⟩ := List.mem_map.1 h1
    rw [← he]; exact h.sizes y hy
  · rw [h.ok.flight, fl_sum s.waits h.asks, hw, sf_un]
theorem acked_fine {s : St} {xs : List Sp} {delay t : Int} (hn : s.now ≤ t ∧ t ≤ 1099511627776) (hd : 0 ≤ delay ∧ delay ≤ 1099511627776) (hx : ∀ x ∈ xs, 0 ≤ x.first ∧ x.first ≤ x.last ∧ x.last ≤ s.top) : ∃ s2 ca lo, s.acked xs delay t = (s2, ca, lo, 0) := by
  have hbad : s.badSp xs = 0 := by
    unfold St.badSp
    rw [if_neg (by simp only [List.any_eq_true, decide_eq_true_eq, not_exists, not_and]; intro x hx'; have := hx x hx'; omega), if_neg (by simp only [List.any_eq_true, decide_eq_true_eq, not_exists, not_and]; intro x hx'; have := hx x hx'; omega)]
  unfold St.acked
  rw [if_neg (by omega), if_neg (by rw [hbad]; simp)]
  exact ⟨_, _, _, rfl⟩
theorem fire_fine {s : St} {t : Int} (hn : s.now ≤ t ∧ t ≤ 1099511627776) : ∃ s2 ns y, s.fire t = (s2, ns, y, 0) := by
  unfold St.fire
  rw [if_pos hn]
  split
  · exact ⟨_, _, _, rfl⟩
  split
  · exact ⟨_, _, _, rfl⟩
  · exact ⟨_, _, _, rfl⟩
/-- A remainder by a length, under a name of its own (else 'omega' holds one such term against the other by unfolding). -/
def tm (x : Int) (n : Nat) : Int := (x % 18446744073709551616).tmod ((n : Int) % 18446744073709551616)
theorem tm_eq (x : Int) (n : Nat) : (x % 18446744073709551616).tmod ((n : Int) % 18446744073709551616) = tm x n := rfl
theorem tm_len (x : Int) {n : Nat} (h : 0 < n) (hn : n ≤ 1000) : 0 ≤ tm x n ∧ tm x n ≤ (n : Int) - 1 := by
  have h1 : (n : Int) % 18446744073709551616 = n := by omega
  unfold tm
  rw [h1, Int.tmod_eq_emod_of_nonneg (by omega)]
  have := Int.emod_lt_of_pos (x % 18446744073709551616) (show (0 : Int) < n by omega)
  exact ⟨Int.emod_nonneg _ (by omega), by omega⟩
attribute [irreducible] tm
end Go.Proofs.Ytomaldjedncjoaa.E
