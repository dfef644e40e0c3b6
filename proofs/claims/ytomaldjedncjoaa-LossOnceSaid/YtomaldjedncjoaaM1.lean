/-
The layer 'loss': what holds of every state's numbers, and that each step keeps it. Plain Lean, no program in sight.
Conditions: each is said with its statement.
-/
import Derived.Test.YtomaldjedncjoaaL5
set_option linter.unusedVariables false
namespace Go.Proofs.Ytomaldjedncjoaa.E
open Go
/-- The sizes of those that ask. -/
def fl : List Pk → Int
  | [] => 0
  | q :: l => (if q.asks then q.size else 0) + fl l
theorem fl_append (l m : List Pk) : fl (l ++ m) = fl l + fl m := by
  induction l with
  | nil => simp [fl]
  | cons q l ih => simp only [List.cons_append, fl, ih]; omega
theorem fl_bound (l : List Pk) (h : ∀ q ∈ l, 0 ≤ q.size ∧ q.size ≤ 65535) : 0 ≤ fl l ∧ fl l ≤ 65535 * l.length := by
  induction l with
  | nil => simp [fl]
  | cons q l ih =>
    have h1 := ih fun x hx => h x (by simp [hx])
    have h2 := h q (by simp)
    simp only [fl, List.length_cons]
    split <;> omega
theorem fl_split (l : List Pk) (p : Pk → Bool) : fl (l.filter p) + fl (l.filter fun x => !p x) = fl l := by
  induction l with
  | nil => simp [fl]
  | cons q l ih =>
    cases hp : p q
    · simp only [List.filter_cons, hp, Bool.not_false, if_true, fl, Bool.false_eq_true, if_false]; omega
    · simp only [List.filter_cons, hp, Bool.not_true, if_true, fl, Bool.false_eq_true, if_false]; omega
theorem offs_fl (s : St) (l : List Pk) : (offs s l).flight = s.flight - fl l := by
  induction l generalizing s with
  | nil => simp [offs, fl]
  | cons q l ih =>
    have h4 : offs s (q :: l) = offs (s.off q) l := rfl
    rw [h4, ih]
    simp only [fl, St.off]
    split <;> (try dsimp only) <;> omega
/-- What holds of a packet in a state. -/
structure Pk.Ok (now top : Int) (q : Pk) : Prop where
  size : 0 ≤ q.size ∧ q.size ≤ 65535
  at_ : 0 ≤ q.at_ ∧ q.at_ ≤ now
  number : 0 ≤ q.number ∧ q.number ≤ top
/-- What holds of a state. -/
structure St.Ok (s : St) : Prop where
  smooth : 0 ≤ s.smooth ∧ s.smooth ≤ 1099511627776
  vary : 0 ≤ s.vary ∧ s.vary ≤ 1099511627776
  least : 0 ≤ s.least ∧ s.least ≤ 1099511627776
  last : 0 ≤ s.last ∧ s.last ≤ 1099511627776
  top : -1 ≤ s.top ∧ s.top ≤ 1099511627776
  best : -1 ≤ s.best ∧ s.best ≤ s.top
  window : 2400 ≤ s.window ∧ s.window ≤ 1073807359
  tries : 0 ≤ s.tries ∧ s.tries ≤ 5
  now : 0 ≤ s.now ∧ s.now ≤ 1099511627776
  flight : s.flight = fl s.waits
  each : ∀ q ∈ s.waits, q.Ok s.now s.top
  order : s.waits.Pairwise fun q r => q.number < r.number
theorem len_of_order : ∀ (l : List Pk) (a b : Int), l.Pairwise (fun q r => q.number < r.number) → (∀ q ∈ l, a ≤ q.number ∧ q.number ≤ b) → a ≤ b + 1 → (l.length : Int) ≤ b + 1 - a
  | [], a, b, _, _, h => by simp; omega
  | q :: l, a, b, h, hb, hab => by
    have h1 := hb q (by simp)
    obtain ⟨h2, h3⟩ := List.pairwise_cons.1 h
    have := len_of_order l (q.number + 1) b h3 (fun r hr => ⟨by have := h2 r hr; omega, (hb r (by simp [hr])).2⟩) (by omega)
    simp only [List.length_cons]; omega
theorem St.Ok.len {s : St} (ok : s.Ok) : s.waits.length ≤ 1099511627777 := by
  have h1 := ok.top
  have := len_of_order s.waits 0 s.top ok.order (fun q hq => (ok.each q hq).number) (by omega)
  omega
theorem St.Ok.fl {s : St} (ok : s.Ok) : 0 ≤ s.flight ∧ s.flight ≤ 4611686018427387904 := by
  have h1 := fl_bound s.waits fun q hq => (ok.each q hq).size
  have h2 := ok.len
  rw [ok.flight]; omega
theorem new_ok : newS.Ok := ⟨by decide, by decide, by decide, by decide, by decide, by decide, by decide, by decide, by decide, rfl, (fun q hq => nomatch hq), List.Pairwise.nil⟩
theorem now_ok {s : St} (ok : s.Ok) {t : Int} (h : s.now ≤ t ∧ t ≤ 1099511627776) : ({ s with now := t } : St).Ok :=
  ⟨ok.smooth, ok.vary, ok.least, ok.last, ok.top, ok.best, ok.window, ok.tries, by have := ok.now; simp only; omega, ok.flight, fun q hq => ⟨(ok.each q hq).size, by have := (ok.each q hq).at_; simp only; omega, (ok.each q hq).number⟩, ok.order⟩
theorem outS_ok {s : St} (ok : s.Ok) (p : Pk → Bool) : (s.outS p).Ok := by
  have hs := offs_same s (s.waits.filter p)
  have hfl := offs_fl s (s.waits.filter p)
  have hsp := fl_split s.waits p
  have he : s.outS p = { s with flight := (offs s (s.waits.filter p)).flight, waits := s.waits.filter fun x => !p x } := by
    unfold sameBut at hs; unfold St.outS; rw [hs]
  rw [he]
  exact ⟨ok.smooth, ok.vary, ok.least, ok.last, ok.top, ok.best, ok.window, ok.tries, ok.now, by simp only; rw [hfl, ok.flight]; omega, fun q hq => ok.each q (List.mem_filter.1 hq).1, ok.order.sublist List.filter_sublist⟩
theorem cut_ok {s : St} (ok : s.Ok) (now : Int) (gone : List Pk) : (s.cut now gone).Ok := by
  have hw := ok.window
  unfold St.cut
  split
  · split
    · exact ⟨ok.smooth, ok.vary, ok.least, ok.last, ok.top, ok.best, by simp only; omega, ok.tries, ok.now, ok.flight, ok.each, ok.order⟩
    · exact ok
  · exact ok
theorem give_ok {s : St} (ok : s.Ok) (now : Int) : (s.give now).Ok := cut_ok (outS_ok ok _) now _
theorem grow_ok {s : St} (ok : s.Ok) (p : Pk) (hp : 0 ≤ p.size ∧ p.size ≤ 65535) : (s.grow p).Ok := by
  have hw := ok.window
  unfold St.grow
  split
  · exact ok
  · rename_i h
    have h' : s.window ≤ 1073741824 := by
      rcases Int.lt_or_le 1073741824 s.window with h2 | h2
      · exact absurd (.inr (.inr h2)) h
      · exact h2
    split
    · exact ⟨ok.smooth, ok.vary, ok.least, ok.last, ok.top, ok.best, by simp only; omega, ok.tries, ok.now, ok.flight, ok.each, ok.order⟩
    · have h1 : 0 ≤ 1200 * p.size / s.window := Int.ediv_nonneg (by omega) (by omega)
      have h2 : 1200 * p.size / s.window ≤ 65535 := by
        have : 1200 * p.size / s.window < 65536 := Int.ediv_lt_of_lt_mul (by omega) (by omega)
        omega
      exact ⟨ok.smooth, ok.vary, ok.least, ok.last, ok.top, ok.best, by simp only; omega, ok.tries, ok.now, ok.flight, ok.each, ok.order⟩
theorem sample_ok {s : St} (ok : s.Ok) {trip delay : Int} (h : 0 ≤ trip ∧ trip ≤ 1099511627776) (hd : 0 ≤ delay) : (s.sample trip delay).Ok := by
  have h1 := ok.smooth
  have h2 := ok.vary
  have h3 := ok.least
  unfold St.sample
  split
  · have hadj : 0 ≤ (if min s.least trip + delay ≤ trip then trip - delay else trip) ∧ (if min s.least trip + delay ≤ trip then trip - delay else trip) ≤ 1099511627776 := by split <;> omega
    generalize (if min s.least trip + delay ≤ trip then trip - delay else trip) = adj at hadj
    exact ⟨by simp only; omega, by simp only; omega, by simp only; omega, h, ok.top, ok.best, ok.window, ok.tries, ok.now, ok.flight, ok.each, ok.order⟩
  · exact ⟨h, by simp only; omega, h, h, ok.top, ok.best, ok.window, ok.tries, ok.now, ok.flight, ok.each, ok.order⟩
theorem sent_ok {s : St} (ok : s.Ok) {number size t : Int} {asks : Bool} (h : ¬ sentBad s number size t) : (s.sent number size asks t).Ok := by
  unfold sentBad at h
  have hn := ok.now
  have ht := ok.top
  have hb := ok.best
  unfold St.sent
  refine ⟨ok.smooth, ok.vary, ok.least, ok.last, by simp only; omega, by simp only; omega, ok.window, ok.tries, by simp only; omega, ?_, ?_, ?_⟩
  · simp only [fl_append, ok.flight, E.fl]; cases asks <;> simp
  · intro q hq
    simp only at hq ⊢
    rcases List.mem_append.1 hq with hq | hq
    · have := ok.each q hq
      exact ⟨this.size, by have := this.at_; omega, by have := this.number; omega⟩
    · obtain rfl := List.mem_singleton.1 hq
      exact ⟨by simp only; omega, by simp only; omega, by simp only; omega⟩
  · simp only
    refine List.pairwise_append.2 ⟨ok.order, List.pairwise_singleton _ _, fun q hq r hr => ?_⟩
    obtain rfl := List.mem_singleton.1 hr
    have := (ok.each q hq).number
    simp only; omega
end Go.Proofs.Ytomaldjedncjoaa.E
