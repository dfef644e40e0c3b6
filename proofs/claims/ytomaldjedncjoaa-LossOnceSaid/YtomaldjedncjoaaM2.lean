/-
The layer 'loss': what each call keeps; rows of trips; packets that went one behind the other. Plain Lean, no program in sight.
Conditions: each is said with its statement.
-/
import Derived.Test.YtomaldjedncjoaaL8
set_option linter.unusedVariables false
namespace Go.Proofs.Ytomaldjedncjoaa.E
open Go
theorem outS_eq (s : St) (p : Pk → Bool) : s.outS p = { s with flight := s.flight - fl (s.waits.filter p), waits := s.waits.filter fun x => !p x } := by
  have hs := offs_same s (s.waits.filter p)
  have hfl := offs_fl s (s.waits.filter p)
  unfold sameBut at hs; unfold St.outS; rw [hs, hfl]
theorem acked_ok {s : St} (ok : s.Ok) (xs : List Sp) (delay t : Int) : (s.acked xs delay t).1.Ok := by
  unfold St.acked
  split
  · exact ok
  split
  · exact ok
  rename_i h h2
  have ht : s.now ≤ t ∧ t ≤ 1099511627776 := by omega
  have ok1 := now_ok ok ht
  refine give_ok (takes_ok (outS_ok ok1 _) ?_ (by omega)) _
  intro q hq
  have hq := ok1.each q (List.mem_filter.1 hq).1
  rw [outS_eq]
  exact hq
theorem fire_ok {s : St} (ok : s.Ok) (t : Int) : (s.fire t).1.Ok := by
  unfold St.fire
  split
  · rename_i h
    have ok1 := now_ok ok h
    have htr := ok.tries
    split
    · exact ok1
    split
    · exact give_ok ok1 _
    · exact ⟨ok.smooth, ok.vary, ok.least, ok.last, ok.top, ok.best, ok.window, by simp only; omega, ok1.now, ok.flight, ok1.each, ok.order⟩
  · exact ok
theorem give_nil {s : St} (h : s.waits = []) (t : Int) : s.give t = s := by
  unfold St.give St.cut St.outS
  simp only [h, List.filter_nil, List.reverse_nil, List.find?_nil]
  cases s; simp only at h; subst h; rfl

/-! ### A row of trips -/
structure TripI (i : Nat) (s : St) (low high now : Int) : Prop where
  ok : s.Ok
  waits : s.waits = []
  top : s.top = (i : Int) - 1
  best : s.best = (i : Int) - 1
  nowe : s.now = now
  nowb : 0 ≤ now ∧ now ≤ 5000 * i
  first : i = 0 → s.had = false ∧ low = 1099511627776 ∧ high = 0
  later : 0 < i → s.had = true ∧ 0 ≤ low ∧ low ≤ high ∧ high ≤ 4999 ∧ low - 7 ≤ s.smooth ∧ s.smooth ≤ high ∧ s.vary ≤ high ∧ (low = high → s.smooth = low)
theorem trip_new : TripI 0 newS 1099511627776 0 0 := ⟨new_ok, rfl, rfl, rfl, rfl, by decide, fun _ => ⟨rfl, rfl, rfl⟩, fun h => absurd h (by decide)⟩
theorem trip_good {i : Nat} {s : St} {low high now : Int} (h : TripI i s low high now) (hi : i < 60) : ¬ sentBad s i 100 now := by
  have h1 := h.top
  have h2 := h.nowe
  have h3 := h.nowb
  unfold sentBad; omega
theorem sample_fields (s : St) (trip delay : Int) : (s.sample trip delay).waits = s.waits ∧ (s.sample trip delay).top = s.top ∧ (s.sample trip delay).best = s.best ∧ (s.sample trip delay).now = s.now := by
  unfold St.sample; split <;> exact ⟨rfl, rfl, rfl, rfl⟩
theorem grow_fields (s : St) (p : Pk) : s.grow p = { s with window := (s.grow p).window } := by
  unfold St.grow; split
  · rfl
  · split <;> rfl
theorem acked_one (q : Pk) (best smooth vary least last : Int) (had : Bool) (window mark since flight tries now t : Int) (hb : best ≤ q.number) (h0 : 0 ≤ q.number) (hn : now ≤ t ∧ t ≤ 1099511627776) (ha : q.asks = true) :
    (St.mk [q] q.number best smooth vary least last had window mark since flight tries now).acked [⟨q.number, q.number⟩] 0 t =
      ({ ((St.mk [] q.number q.number smooth vary least last had window mark since (flight - q.size) tries t).sample (t - q.at_) 0).grow q with tries := 0 }, [q.number], [], 0) := by
  have hq : inSp [⟨q.number, q.number⟩] q.number = true := by simp [inSp]
  have hbad : (St.mk [q] q.number best smooth vary least last had window mark since flight tries now).badSp [⟨q.number, q.number⟩] = 0 := by
    unfold St.badSp
    rw [if_neg (by simp; omega), if_neg (by simp)]
  have hcame : (St.mk [q] q.number best smooth vary least last had window mark since flight tries t).came [⟨q.number, q.number⟩] = [q] := by
    simp only [St.came, List.filter_cons, hq, if_true, List.filter_nil]
  have hout : (St.mk [q] q.number best smooth vary least last had window mark since flight tries t).outS (fun x => inSp [⟨q.number, q.number⟩] x.number) = St.mk [] q.number best smooth vary least last had window mark since (flight - q.size) tries t := by
    rw [outS_eq]
    simp only [List.filter_cons, hq, if_true, List.filter_nil, Bool.not_true, Bool.false_eq_true, if_false, fl, ha, Int.add_zero]
  have htk : (St.mk [] q.number best smooth vary least last had window mark since (flight - q.size) tries t).takes [q] 0 = { ((St.mk [] q.number q.number smooth vary least last had window mark since (flight - q.size) tries t).sample (t - q.at_) 0).grow q with tries := 0 } := by
    simp only [St.takes, List.getLast?_singleton, List.foldl_cons, List.foldl_nil, St.takes1, if_pos hb, List.any_cons, List.any_nil, Bool.or_false, ha, if_true]
  unfold St.acked
  rw [if_neg (by simp only; omega), if_neg (by rw [hbad]; simp)]
  simp only [hcame, hout, htk]
  have hw : (((St.mk [] q.number q.number smooth vary least last had window mark since (flight - q.size) tries t).sample (t - q.at_) 0).grow q).waits = [] := by rw [grow_waits, sample_waits]
  generalize ((St.mk [] q.number q.number smooth vary least last had window mark since (flight - q.size) tries t).sample (t - q.at_) 0).grow q = u at hw ⊢
  rw [give_nil (by exact hw)]
  simp only [hw, List.filter_nil, List.map_nil, List.map_cons]
theorem trip_round {i : Nat} {s : St} {low high now n : Int} (h : TripI i s low high now) (hi : i < 60) (hn : 0 ≤ n ∧ n < 5000) :
    ∃ s2, (s.sent i 100 true now).acked [⟨i, i⟩] 0 (now + n) = (s2, [(i : Int)], [], 0) ∧ TripI (i + 1) s2 (min low n) (max high n) (now + n) := by
  have ok1 := sent_ok h.ok (trip_good h hi) (asks := true)
  have hok := acked_ok ok1 [⟨i, i⟩] 0 (now + n)
  obtain ⟨ok, h1, h2, h4, h3, h5, hf, hl⟩ := h
  have hsm := ok.smooth
  have hva := ok.vary
  clear ok ok1
  cases s with
  | mk waits top best smooth vary least last had window mark since flight tries now' =>
  simp only at h1 h2 h3 h4 hf hl hsm hva
  subst h1; subst h3
  have he : ((St.mk [] top best smooth vary least last had window mark since flight tries now').sent i 100 true now') = St.mk [⟨i, 100, now', true⟩] i best smooth vary least last had window mark since (flight + 100) tries now' := by simp [St.sent]
  rw [he] at hok ⊢
  have ha := acked_one ⟨i, 100, now', true⟩ best smooth vary least last had window mark since (flight + 100) tries now' (now' + n) (by simp only; omega) (by simp only; omega) (by omega) rfl
  simp only at ha
  rw [ha] at hok ⊢
  have hnn : now' + n - now' = n := by omega
  rw [hnn] at hok ⊢
  refine ⟨_, rfl, hok, ?_, ?_, ?_, ?_, by omega, fun h => by omega, fun _ => ?_⟩
  · show (St.grow _ _).waits = []; rw [grow_waits, sample_waits]
  · show (St.grow _ _).top = _; rw [grow_fields]; show (St.sample _ _ _).top = _; rw [(sample_fields _ _ _).2.1]; show (i : Int) = _; omega
  · show (St.grow _ _).best = _; rw [grow_fields]; show (St.sample _ _ _).best = _; rw [(sample_fields _ _ _).2.2.1]; show (i : Int) = _; omega
  · show (St.grow _ _).now = _; rw [grow_fields]; show (St.sample _ _ _).now = _; rw [(sample_fields _ _ _).2.2.2]
  · show (St.grow _ _).had = _ ∧ _ ∧ _ ∧ _ ∧ _ ≤ (St.grow _ _).smooth ∧ (St.grow _ _).smooth ≤ _ ∧ (St.grow _ _).vary ≤ _ ∧ (_ → (St.grow _ _).smooth = _)
    rw [grow_fields]
    show (St.sample _ _ _).had = _ ∧ _ ∧ _ ∧ _ ∧ _ ≤ (St.sample _ _ _).smooth ∧ (St.sample _ _ _).smooth ≤ _ ∧ (St.sample _ _ _).vary ≤ _ ∧ (_ → (St.sample _ _ _).smooth = _)
    rcases Nat.eq_zero_or_pos i with h0 | h0
    · obtain ⟨f1, f2, f3⟩ := hf h0
      subst f1; subst f2; subst f3
      simp only [St.sample, Bool.false_eq_true, if_false]
      refine ⟨trivial, by omega, by omega, by omega, by omega, by omega, by omega, by omega⟩
    · obtain ⟨f1, f2, f3, f4, f5, f6, f7, f8⟩ := hl h0
      subst f1
      have hadj : (if min least n + 0 ≤ n then n - 0 else n) = n := by split <;> omega
      simp only [St.sample, if_true, hadj]
      refine ⟨trivial, by omega, by omega, by omega, by omega, by omega, by omega, fun hlh => ?_⟩
      have := f8 (by omega)
      omega
end Go.Proofs.Ytomaldjedncjoaa.E
