/-
The layer 'loss': nothing comes back for a while, then all. Plain Lean, no program in sight.
Conditions: each is said with its statement.
-/
import Derived.Test.YtomaldjedncjoaaM3
set_option linter.unusedVariables false
namespace Go.Proofs.Ytomaldjedncjoaa.E
open Go
def endsS (m : Nat) (size t0 : Int) (k : Nat) (now : Int) : St := St.mk (pks size t0 (m + 1)) m (-1) 100 50 0 0 false 12000 1099511627776 (-1) ((m + 1 : Nat) * size) k now
def P2 (k : Nat) : Int := 325 * 2 ^ k
theorem P2_succ (k : Nat) : P2 (k + 1) = 2 * P2 k := by unfold P2; rw [Int.pow_succ]; omega
theorem P2_five : P2 5 = 10400 := rfl
theorem P2_bound {k : Nat} (h : k ≤ 5) : 325 ≤ P2 k ∧ P2 k ≤ 10400 := by
  have hc : k = 0 ∨ k = 1 ∨ k = 2 ∨ k = 3 ∨ k = 4 ∨ k = 5 := by omega
  rcases hc with rfl | rfl | rfl | rfl | rfl | rfl <;> decide
theorem ends_new (m : Nat) (size t0 : Int) : sends size t0 (m + 1) = endsS m size t0 0 t0 := by rw [sends_mk]; rfl
theorem ends_timer (m : Nat) (size t0 : Int) (k : Nat) (now : Int) : (endsS m size t0 k now).timer = (t0 + P2 k, true, false) := by
  have hw : (endsS m size t0 k now).waits = pks size t0 (m + 1) := rfl
  have hb : (endsS m size t0 k now).best = -1 := rfl
  have hr : (endsS m size t0 k now).rto = P2 k := by
    show ((100 : Int) + max (4 * 50) 1 + 25) * 2 ^ ((k : Int).toNat) = 325 * 2 ^ k
    rw [Int.toNat_natCast]; rfl
  unfold St.timer
  rw [hw, hb, hr]
  cases hc : pks size t0 (m + 1) with
  | nil => have := pks_length size t0 (m + 1); rw [hc] at this; simp at this
  | cons q r =>
    obtain ⟨i, hi, rfl⟩ := pks_mem (size := size) (t := t0) (n := m + 1) (q := q) (by rw [hc]; simp)
    simp only
    rw [if_neg (by show ¬ (i : Int) < -1; omega), ← hc, pks_succ, List.reverse_append]
    rfl
theorem ends_ok {m : Nat} {size t0 now : Int} {k : Nat} (hm : m ≤ 1000) (hs : 1 ≤ size ∧ size ≤ 65535) (ht : 0 ≤ t0 ∧ t0 ≤ now ∧ now ≤ 1099511627776) (hk : k ≤ 5) : (endsS m size t0 k now).Ok := by
  have ok := sends_ok (size := size) (t := t0) hs (by omega) (m + 1) (by omega)
  rw [ends_new] at ok
  exact ⟨ok.smooth, ok.vary, ok.least, ok.last, ok.top, ok.best, ok.window, ⟨by simp [endsS], by simp only [endsS]; omega⟩, by simp only [endsS]; omega, ok.flight, fun q hq => ⟨(ok.each q hq).size, by have := (ok.each q hq).at_; simp only [endsS] at this ⊢; omega, (ok.each q hq).number⟩, ok.order⟩
theorem ends_fire1 (m : Nat) (size t0 : Int) (k : Nat) (now t : Int) (h : now ≤ t ∧ t ≤ 1099511627776) (hp : t < t0 + P2 k) : (endsS m size t0 k now).fire t = (endsS m size t0 k t, [], false, 0) := by
  have h1 : ({ endsS m size t0 k now with now := t } : St) = endsS m size t0 k t := rfl
  unfold St.fire
  rw [if_pos (show (endsS m size t0 k now).now ≤ t ∧ t ≤ 1099511627776 from h), h1, ends_timer]
  exact if_pos (.inr hp)
theorem ends_fire2 (m : Nat) (size t0 : Int) (k : Nat) (now t : Int) (h : now ≤ t ∧ t ≤ 1099511627776) (hp : t = t0 + P2 k) (hk : k ≤ 5) : (endsS m size t0 k now).fire t = (endsS m size t0 (min (k + 1) 5) t, [], true, 0) := by
  have h1 : ({ endsS m size t0 k now with now := t } : St) = endsS m size t0 k t := rfl
  unfold St.fire
  rw [if_pos (show (endsS m size t0 k now).now ≤ t ∧ t ≤ 1099511627776 from h), h1, ends_timer, if_neg (by simp; omega), if_neg (by simp)]
  have : (min ((k : Int) + 1) 5) = ((min (k + 1) 5 : Nat) : Int) := by omega
  simp only [endsS, this]
theorem foldl_window (size t0 : Int) (s : St) (hs : s.since < t0) (hz : 0 ≤ size ∧ size ≤ 1000) (hw : 0 ≤ s.window ∧ s.window ≤ 100000) (hm : s.mark = 1099511627776) : ∀ n : Nat, n ≤ 20 → (pks size t0 n).foldl St.grow s = { s with window := s.window + n * size }
  | 0, _ => by
    show s = _
    cases s; simp
  | n + 1, hn => by
    have ih := foldl_window size t0 s hs hz hw hm n (by omega)
    have hb : 0 ≤ (n : Int) * size ∧ (n : Int) * size ≤ 20 * 1000 := ⟨Int.mul_nonneg (by omega) hz.1, Int.mul_le_mul (by omega) hz.2 hz.1 (by omega)⟩
    rw [pks_succ, List.foldl_append, ih]
    simp only [List.foldl_cons, List.foldl_nil, St.grow, pkt]
    rw [if_neg (by simp; omega), if_pos (by omega)]
    have : ((n + 1 : Nat) : Int) * size = n * size + size := by rw [Int.natCast_add, Int.add_mul]; simp
    simp only [this]
    congr 1
    omega
theorem ends_acked (m : Nat) (size t0 now t : Int) (hm : m ≤ 19) (hs : 1 ≤ size ∧ size ≤ 1000) (ht : 0 ≤ t0 ∧ t0 ≤ now ∧ now ≤ t ∧ t ≤ 1099511627776) :
    ∃ s2 l, (endsS m size t0 5 now).acked [⟨0, m⟩] 0 t = (s2, l, [], 0) ∧ l.length = m + 1 ∧ s2.waits = [] ∧ s2.window = 12000 + ((m : Int) + 1) * size := by
  have hin : ∀ i, i < m + 1 → inSp [⟨0, m⟩] (pkt size t0 i).number = true := fun i hi => by simp [inSp, pkt]; omega
  have hbad : (endsS m size t0 5 now).badSp [⟨0, m⟩] = 0 := by
    unfold St.badSp; rw [if_neg (by simp), if_neg (by simp [endsS])]
  have hf : (pks size t0 (m + 1)).filter (fun q => inSp [⟨0, m⟩] q.number) = pks size t0 (m + 1) := pks_all hin
  have hf' : (pks size t0 (m + 1)).filter (fun q => !inSp [⟨0, m⟩] q.number) = [] := pks_none fun i hi => by simp [hin i hi]
  have hcame : ({ endsS m size t0 5 now with now := t } : St).came [⟨0, m⟩] = pks size t0 (m + 1) := hf
  have hout : ({ endsS m size t0 5 now with now := t } : St).outS (fun q => inSp [⟨0, m⟩] q.number) = St.mk [] m (-1) 100 50 0 0 false 12000 1099511627776 (-1) 0 5 t := by
    rw [outS_eq]
    simp only [endsS, hf, hf', pks_fl, Int.sub_self]
    rfl
  have hlast : (pks size t0 (m + 1)).getLast? = some (pkt size t0 m) := by rw [pks_succ]; simp
  have hany : (pks size t0 (m + 1)).any (·.asks) = true := by
    rw [pks_succ, List.any_append]; simp [pkt]
  have htk : (St.mk [] m (-1) 100 50 0 0 false 12000 1099511627776 (-1) 0 5 t).takes (pks size t0 (m + 1)) 0 = St.mk [] m m (t - t0) ((t - t0) / 2) (t - t0) (t - t0) true (12000 + ((m + 1 : Nat) : Int) * size) 1099511627776 (-1) 0 0 t := by
    unfold St.takes
    rw [hlast]
    have h1 : (-1 : Int) ≤ m := by omega
    have ht1 : (St.mk [] m (-1) 100 50 0 0 false 12000 1099511627776 (-1) 0 5 t).takes1 (pkt size t0 m) (pks size t0 (m + 1)) 0 = St.mk [] m m (t - t0) ((t - t0) / 2) (t - t0) (t - t0) true 12000 1099511627776 (-1) 0 5 t := by
      simp only [St.takes1, pkt, if_pos h1, hany, if_true, St.sample, Bool.false_eq_true, if_false]
    simp only [ht1]
    rw [foldl_window size t0 _ (by simp only; omega) (by omega) (by simp) rfl (m + 1) (by omega)]
  unfold St.acked
  rw [if_neg (by simp only [endsS]; omega), if_neg (by rw [hbad]; simp)]
  simp only [hcame, hout, htk]
  rw [give_nil rfl]
  refine ⟨_, _, rfl, ?_, rfl, ?_⟩
  · rw [List.length_map, pks_length]
  · simp only
    rw [Int.natCast_add]; rfl
end Go.Proofs.Ytomaldjedncjoaa.E
