/-
The layer 'loss': packets that went one behind the other. Plain Lean, no program in sight.
Conditions: each is said with its statement.
-/
import Derived.Test.YtomaldjedncjoaaM2
set_option linter.unusedVariables false
namespace Go.Proofs.Ytomaldjedncjoaa.E
open Go
def pks (size t : Int) (n : Nat) : List Pk := (List.range n).map (pkt size t)
theorem pks_succ (size t : Int) (n : Nat) : pks size t (n + 1) = pks size t n ++ [pkt size t n] := by simp [pks, List.range_succ]
theorem pks_mem {size t : Int} {n : Nat} {q : Pk} (h : q ∈ pks size t n) : ∃ i, i < n ∧ q = pkt size t i := by
  simp only [pks, List.mem_map, List.mem_range] at h
  obtain ⟨i, hi, rfl⟩ := h
  exact ⟨i, hi, rfl⟩
theorem pks_all {size t : Int} {n : Nat} {p : Pk → Bool} (h : ∀ i, i < n → p (pkt size t i) = true) : (pks size t n).filter p = pks size t n :=
  List.filter_eq_self.2 fun q hq => by obtain ⟨i, hi, rfl⟩ := pks_mem hq; exact h i hi
theorem pks_none {size t : Int} {n : Nat} {p : Pk → Bool} (h : ∀ i, i < n → p (pkt size t i) = false) : (pks size t n).filter p = [] :=
  List.filter_eq_nil_iff.2 fun q hq => by obtain ⟨i, hi, rfl⟩ := pks_mem hq; simp [h i hi]
theorem pks_fl (size t : Int) (n : Nat) : fl (pks size t n) = n * size := by
  induction n with
  | zero => simp [pks, fl]
  | succ n ih => rw [pks_succ, fl_append, ih]; simp [fl, pkt, Int.add_mul]
theorem pks_length (size t : Int) (n : Nat) : (pks size t n).length = n := by simp [pks]
/-- Those below a number. -/
theorem pks_cut {size t : Int} {n k : Nat} {p : Pk → Bool} (hk : k ≤ n) (h : ∀ i, i < n → p (pkt size t i) = decide (i < k)) : (pks size t n).filter p = pks size t k := by
  induction n with
  | zero =>
    have : k = 0 := by omega
    subst this; rfl
  | succ n ih =>
    rw [pks_succ, List.filter_append]
    have hn := h n (by omega)
    rcases Nat.lt_or_ge n k with h1 | h1
    · have : k = n + 1 := by omega
      subst this
      rw [pks_succ, pks_all fun i hi => by rw [h i (by omega)]; simp; omega]
      simp [hn]
    · rw [ih h1 fun i hi => h i (by omega)]
      have : decide (n < k) = false := by simp; omega
      simp [hn, this]
theorem sends_mk (size t : Int) (n : Nat) : sends size t (n + 1) = St.mk (pks size t (n + 1)) n (-1) 100 50 0 0 false 12000 1099511627776 (-1) ((n + 1 : Nat) * size) 0 t := by
  unfold sends newS pks
  simp

/-! ### The last one came -/
def givesA (m : Nat) (w : Int) : St := St.mk (pks 50 10 m) m m w (w / 2) w w true 12050 1099511627776 (-1) (m * 50) 0 (10 + w)
theorem gives_acked (m : Nat) (w : Int) (hm : m ≤ 39) (hw : 1 ≤ w ∧ w ≤ 500) :
    (sends 50 10 (m + 1)).acked [⟨m, m⟩] 0 (10 + w) = ((givesA m w).give (10 + w), [(m : Int)], ((givesA m w).waits.filter ((givesA m w).lost (10 + w))).map (·.number), 0) := by
  rw [sends_mk]
  have hin : ∀ i, i < m → inSp [⟨m, m⟩] (pkt 50 10 i).number = false := fun i hi => by simp [inSp, pkt]; omega
  have him : inSp [⟨m, m⟩] (pkt 50 10 m).number = true := by simp [inSp, pkt]
  have hf : (pks 50 10 (m + 1)).filter (fun q => inSp [⟨m, m⟩] q.number) = [pkt 50 10 m] := by
    rw [pks_succ, List.filter_append, pks_none hin]; simp [him]
  have hf' : (pks 50 10 (m + 1)).filter (fun q => !inSp [⟨m, m⟩] q.number) = pks 50 10 m := by
    rw [pks_succ, List.filter_append, pks_all fun i hi => by simp [hin i hi]]; simp [him]
  have hbad : (St.mk (pks 50 10 (m + 1)) m (-1) 100 50 0 0 false 12000 1099511627776 (-1) ((m + 1 : Nat) * 50) 0 10).badSp [⟨m, m⟩] = 0 := by
    unfold St.badSp; rw [if_neg (by simp), if_neg (by simp)]
  unfold St.acked
  rw [if_neg (by simp only; omega), if_neg (by rw [hbad]; simp)]
  have hcame : (St.mk (pks 50 10 (m + 1)) m (-1) 100 50 0 0 false 12000 1099511627776 (-1) ((m + 1 : Nat) * 50) 0 (10 + w)).came [⟨m, m⟩] = [pkt 50 10 m] := hf
  have hout : (St.mk (pks 50 10 (m + 1)) m (-1) 100 50 0 0 false 12000 1099511627776 (-1) ((m + 1 : Nat) * 50) 0 (10 + w)).outS (fun q => inSp [⟨m, m⟩] q.number) = St.mk (pks 50 10 m) m (-1) 100 50 0 0 false 12000 1099511627776 (-1) (m * 50) 0 (10 + w) := by
    rw [outS_eq]
    simp only [hf, hf']
    congr 1
    simp [fl, pkt]
    omega
  have htk : (St.mk (pks 50 10 m) m (-1) 100 50 0 0 false 12000 1099511627776 (-1) (m * 50) 0 (10 + w)).takes [pkt 50 10 m] 0 = givesA m w := by
    have h1 : (-1 : Int) ≤ m := by omega
    have h2 : (10 : Int) + w - 10 = w := by omega
    simp only [St.takes, List.getLast?_singleton, List.foldl_cons, List.foldl_nil, St.takes1, pkt, if_pos h1, List.any_cons, List.any_nil, Bool.or_false, if_true, St.sample, Bool.false_eq_true, if_false, h2, St.grow]
    simp [givesA]
  simp only [hcame, hout, htk]
  rfl
theorem givesA_wait (m : Nat) (w : Int) : (givesA m w).wait = max (9 * w / 8) 1 := by
  unfold St.wait givesA; simp only [Int.max_self]
theorem give_fields (s : St) (t : Int) : (s.give t).waits = s.waits.filter (fun x => !s.lost t x) ∧ (s.give t).best = s.best ∧ (s.give t).smooth = s.smooth ∧ (s.give t).vary = s.vary ∧ (s.give t).last = s.last ∧ (s.give t).tries = s.tries ∧ (s.give t).now = s.now := by
  unfold St.give
  rw [outS_eq]
  unfold St.cut
  split
  · split <;> exact ⟨rfl, rfl, rfl, rfl, rfl, rfl, rfl⟩
  · exact ⟨rfl, rfl, rfl, rfl, rfl, rfl, rfl⟩
/-- Where their time has come: all of them. -/
theorem gives_all (m : Nat) (w : Int) (h : max (9 * w / 8) 1 ≤ w) : (givesA m w).waits.filter ((givesA m w).lost (10 + w)) = pks 50 10 m := by
  refine pks_all fun i hi => ?_
  have h1 : (givesA m w).best = m := rfl
  have h2 := givesA_wait m w
  simp only [St.lost, lostP, pkt, h1, h2]
  simp; omega
theorem gives_early (m : Nat) (w : Int) (h : w < max (9 * w / 8) 1) : (givesA m w).waits.filter ((givesA m w).lost (10 + w)) = pks 50 10 (m - 2) := by
  refine pks_cut (by omega) fun i hi => ?_
  have h1 : (givesA m w).best = m := rfl
  have h2 := givesA_wait m w
  simp only [St.lost, lostP, pkt, h1, h2]
  rw [decide_eq_decide]
  omega
theorem gives_numbers (n : Nat) : (pks 50 10 n).map (·.number) = (List.range n).map (fun i : Nat => (i : Int)) := by simp [pks, pkt]
theorem give_flight {s : St} (ok : s.Ok) (h : s.waits = []) : s.flight = 0 := by rw [ok.flight, h]; rfl
/-- Some wait still: the timer, and what is given up then. -/
theorem gives_late (m : Nat) (w : Int) (hm : 1 ≤ m ∧ m ≤ 39) (hw : 1 ≤ w ∧ w ≤ 500) (h : w < max (9 * w / 8) 1) :
    ((givesA m w).give (10 + w)).timer = (10 + max (9 * w / 8) 1, true, true) ∧
    ∃ s2 l, ((givesA m w).give (10 + w)).fire (10 + max (9 * w / 8) 1) = (s2, l, false, 0) ∧ l.length = m - (m - 2) ∧ s2.waits = [] := by
  obtain ⟨f1, f2, f3, f4, f5, f6, f7⟩ := give_fields (givesA m w) (10 + w)
  have hb : (givesA m w).best = m := rfl
  have hsm : (givesA m w).smooth = w := rfl
  have hla : (givesA m w).last = w := rfl
  have hnw : (givesA m w).now = 10 + w := rfl
  have hws : ((givesA m w).give (10 + w)).waits = (pks 50 10 m).filter (fun q => decide (((m - 2 : Nat) : Int) ≤ q.number)) := by
    rw [f1]
    refine List.filter_congr fun q hq => ?_
    obtain ⟨i, hi, rfl⟩ := pks_mem hq
    have h2 := givesA_wait m w
    show (!decide ((i : Int) ≤ (givesA m w).best - 3 ∨ ((i : Int) < (givesA m w).best ∧ 10 ≤ 10 + w - (givesA m w).wait))) = decide (((m - 2 : Nat) : Int) ≤ (i : Int))
    rw [hb, h2, ← decide_not, decide_eq_decide]
    omega
  generalize (givesA m w).give (10 + w) = s at f1 f2 f3 f4 f5 f6 f7 hws ⊢
  have hwait : s.wait = max (9 * w / 8) 1 := by
    unfold St.wait; rw [f3, f5, hsm, hla, Int.max_self]
  have hall : ∀ q ∈ s.waits, ∃ i, i < m ∧ q = pkt 50 10 i := fun q hq => by rw [hws] at hq; exact pks_mem (List.mem_filter.1 hq).1
  have htm : ∀ s' : St, s'.waits = s.waits → s'.best = s.best → s'.wait = s.wait → s'.timer = (10 + max (9 * w / 8) 1, true, true) := by
    intro s' g1 g2 g3
    have hne : ∃ q r, s.waits = q :: r := by
      have : pkt 50 10 (m - 1) ∈ s.waits := by
        rw [hws, List.mem_filter]
        refine ⟨?_, by simp [pkt]; omega⟩
        simp only [pks, List.mem_map, List.mem_range]
        exact ⟨m - 1, by omega, rfl⟩
      cases hc : s.waits with
      | nil => rw [hc] at this; cases this
      | cons q r => exact ⟨q, r, rfl⟩
    obtain ⟨q, r, hq⟩ := hne
    obtain ⟨i, hi, rfl⟩ := hall q (by rw [hq]; simp)
    unfold St.timer
    rw [g1, hq]
    simp only [g2, f2, hb, g3, hwait]
    rw [if_pos (by simp [pkt]; omega)]
    rfl
  have hlost : ∀ s' : St, s'.waits = s.waits → s'.best = s.best → s'.wait = s.wait → ∀ q ∈ s'.waits, s'.lost (10 + max (9 * w / 8) 1) q = true := by
    intro s' g1 g2 g3 q hq
    rw [g1] at hq
    obtain ⟨i, hi, rfl⟩ := hall q hq
    simp only [St.lost, lostP, pkt, g2, f2, hb, g3, hwait]
    simp; omega
  refine ⟨htm s rfl rfl rfl, ?_⟩
  unfold St.fire
  rw [if_pos (by rw [f7, hnw]; omega)]
  have ht1 := htm { s with now := 10 + max (9 * w / 8) 1 } rfl rfl rfl
  have hl1 := hlost { s with now := 10 + max (9 * w / 8) 1 } rfl rfl rfl
  rw [ht1]
  rw [if_neg (by simp), if_pos rfl]
  refine ⟨_, _, rfl, ?_, ?_⟩
  · have he : s.waits.filter (({ s with now := 10 + max (9 * w / 8) 1 } : St).lost (10 + max (9 * w / 8) 1)) = s.waits := List.filter_eq_self.2 hl1
    rw [he, List.length_map, hws]
    have hsp : (pks 50 10 m).length = ((pks 50 10 m).filter (fun q => decide (((m - 2 : Nat) : Int) ≤ q.number))).length + ((pks 50 10 m).filter (fun q => !decide (((m - 2 : Nat) : Int) ≤ q.number))).length := by
      induction (pks 50 10 m) with
      | nil => rfl
      | cons q l ih =>
        simp only [List.filter_cons, List.length_cons]
        cases hd : decide (((m - 2 : Nat) : Int) ≤ q.number) <;> simp [ih] <;> omega
    have hc : (pks 50 10 m).filter (fun q => !decide (((m - 2 : Nat) : Int) ≤ q.number)) = pks 50 10 (m - 2) := pks_cut (by omega) fun i hi => by
      show (!decide (((m - 2 : Nat) : Int) ≤ (i : Int))) = _
      rw [← decide_not, decide_eq_decide]; omega
    rw [hc, pks_length, pks_length] at hsp
    omega
  · rw [(give_fields _ _).1]
    exact List.filter_eq_nil_iff.2 fun q hq => by simp [hl1 q hq]
end Go.Proofs.Ytomaldjedncjoaa.E
