/-
The walk's sixth part: regions whose order is drawn. The first n operations only read; the others follow one another: one walk in the text's order serves every order. And regions walked order by order.
Conditions: none; these are general lemmas.
-/
import Derived.Test.YtomaldjedncjoaaE5
set_option linter.unusedVariables false
set_option linter.unusedSimpArgs false
namespace Go.Proofs.Ytomaldjedncjoaa.E
open Go

/-! ### The checks, each by looking at the operations -/
def waits (l : List Oper) (k j : Nat) : Bool := match l[k]? with | some o => o.after.any fun x => Region.binds .any x && x.on == j | none => false
def dOf (l : List Oper) (i : Nat) : Option Tmp := (l[i]?).bind (·.dst)
def kindOk (o : Oper) : Bool := match o.op with | .select .. => false | .defer _ => false | _ => true
def headOk (l : List Oper) (n i : Nat) : Bool :=
  match l[i]? with
  | none => false
  | some o => o.dst.isSome && (o.looksAt l.toArray).all (fun t => (List.range n).all fun j => !(dOf l j == some t) || (decide (j < i) && waits l i j)) &&
      (List.range n).all (fun j => decide (j = i) || !(dOf l j == o.dst))
def dOk (l : List Oper) (n : Nat) : Bool :=
  decide (n ≤ l.length) && l.all kindOk && (List.range n).all (headOk l n) &&
  (List.range l.length).all (fun i => match l[i]? with | some o => o.after.all fun x => !Region.binds .any x || decide (x.on < i) | none => false) &&
  (decide (n = l.length) || ((List.range n).all fun i => (List.range (n + 1)).any fun j => decide (i < j) && waits l j i)) &&
  (List.range l.length).all (fun t => decide (t ≤ n) || waits l t (t - 1))

/-! ### The heads' walk -/
section
variable {P : Program} {G : Cx} {ops : Array Oper} {Q : Po} {D : List Deferred} {e : Env} {L : Heap}
def Still (P : Program) (G : Cx) (ops : Array Oper) (L : Heap) (o : Oper) (v : Value) (e : Env) : Prop :=
  (Region.wanted o (yl ops e) = true ∧ ∀ w, Tr G.w0 G.A0 w L → (execOp (ev e) o).run P w = .ok (.value v) w) ∨ (Region.wanted o (yl ops e) = false ∧ v = undef)
structure OpS (P : Program) (G : Cx) (ops : Array Oper) (o : Oper) (K : Env → Prop) (e : Env) (L : Heap) : Prop where
  out : ∃ v, Still P G ops L o v e ∧ K (updO e o.dst v)
def HW (P : Program) (G : Cx) (ops : Array Oper) (L : Heap) (K : Env → Prop) : List Oper → Env → Prop
  | [], e => K e
  | o :: rest, e => OpS P G ops o (HW P G ops L K rest) e L
theorem hw_nil {K : Env → Prop} (h : K e) : HW P G ops L K [] e := h
theorem hw_cons {K : Env → Prop} {o : Oper} {rest : List Oper} (h : OpS P G ops o (HW P G ops L K rest) e L) : HW P G ops L K (o :: rest) e := h
theorem os_rd {K : Env → Prop} {d : Nat} {op : Op} {ty : TypeId} {pos : String} {af : Array Edge} {g : Option (Nat × Bool)} {v : Value} (h : Rd P G ⟨some d, op, ty, pos, af, g⟩ v e L) (k : K (upd e d v)) : OpS P G ops ⟨some d, op, ty, pos, af, g⟩ K e L :=
  ⟨v, .inl ⟨by have := h.g; simp only at this; subst this; simp [Region.wanted], h.out⟩, k⟩
section
variable {K : Env → Prop} {dst : Option Tmp} {op : Op} {ty : TypeId} {pos : String} {af : Array Edge} {j d : Nat} {want : Bool}
theorem os_yes (hj : (ops[j]?).bind (·.dst) = some d) (hv : e d = .bool want) (h : OpS P G ops ⟨dst, op, ty, pos, af, none⟩ K e L) : OpS P G ops ⟨dst, op, ty, pos, af, some (j, want)⟩ K e L := by
  obtain ⟨v, hs, hk⟩ := h.out
  refine ⟨v, .inl ⟨by simp [Region.wanted, yl, hj, hv], ?_⟩, hk⟩
  rcases hs with ⟨_, hs⟩ | ⟨hs, _⟩
  · exact hs
  · simp [Region.wanted] at hs
theorem os_no (hj : (ops[j]?).bind (·.dst) = some d) (hv : e d = .bool (!want)) {dd : Nat} (h : K (upd e dd undef)) : OpS P G ops ⟨some dd, op, ty, pos, af, some (j, want)⟩ K e L :=
  ⟨undef, .inr ⟨by simp [Region.wanted, yl, hj, hv], rfl⟩, h⟩
theorem os_no_undef (hj : (ops[j]?).bind (·.dst) = some d) (hv : e d = undef) {dd : Nat} (h : K (upd e dd undef)) : OpS P G ops ⟨some dd, op, ty, pos, af, some (j, want)⟩ K e L :=
  ⟨undef, .inr ⟨by simp [Region.wanted, yl, hj, hv, undef], rfl⟩, h⟩
variable {p : Prop} [Decidable p]
theorem os_g_s (hj : (ops[j]?).bind (·.dst) = some d) (hv : e d = .bool (decide p)) (ht : p → OpS P G ops ⟨dst, op, ty, pos, af, some (j, want)⟩ K (upd e d (.bool true)) L) (hf : ¬ p → OpS P G ops ⟨dst, op, ty, pos, af, some (j, want)⟩ K (upd e d (.bool false)) L) :
    OpS P G ops ⟨dst, op, ty, pos, af, some (j, want)⟩ K e L := by
  by_cases hp : p
  · rw [upd_self (e := e) (d := d) (v := .bool true) (by rw [hv, decide_eq_true hp])]; exact ht hp
  · rw [upd_self (e := e) (d := d) (v := .bool false) (by rw [hv, decide_eq_false hp])]; exact hf hp
theorem os_g_t (hj : (ops[j]?).bind (·.dst) = some d) (hv : e d = .bool (decide p)) (hp : p) (h : OpS P G ops ⟨dst, op, ty, pos, af, some (j, want)⟩ K (upd e d (.bool true)) L) : OpS P G ops ⟨dst, op, ty, pos, af, some (j, want)⟩ K e L :=
  os_g_s hj hv (fun _ => h) (fun h => absurd hp h)
theorem os_g_f (hj : (ops[j]?).bind (·.dst) = some d) (hv : e d = .bool (decide p)) (hp : ¬ p) (h : OpS P G ops ⟨dst, op, ty, pos, af, some (j, want)⟩ K (upd e d (.bool false)) L) : OpS P G ops ⟨dst, op, ty, pos, af, some (j, want)⟩ K e L :=
  os_g_s hj hv (fun h => absurd h hp) (fun _ => h)
theorem os_g_b {b : Bool} (hj : (ops[j]?).bind (·.dst) = some d) (hv : e d = .bool b) (ht : b = true → OpS P G ops ⟨dst, op, ty, pos, af, some (j, want)⟩ K (upd e d (.bool true)) L) (hf : b = false → OpS P G ops ⟨dst, op, ty, pos, af, some (j, want)⟩ K (upd e d (.bool false)) L) :
    OpS P G ops ⟨dst, op, ty, pos, af, some (j, want)⟩ K e L := by
  cases b
  · rw [upd_self hv]; exact hf rfl
  · rw [upd_self hv]; exact ht rfl
theorem os_isG (h : OpS P G ops ⟨dst, op, ty, pos, af, some (j, want)⟩ K e L) : OpS P G ops ⟨dst, op, ty, pos, af, some (j, want)⟩ K e L := h
end
theorem isOpS {K : Env → Prop} {o : Oper} (h : OpS P G ops o K e L) : OpS P G ops o K e L := h
theorem looks_ev {o : Oper} {e e' : Env} (h : ∀ t ∈ o.looksAt ops, e t = e' t) : ∀ x ∈ o.op.operands, ev e x = ev e' x := fun x hx => by
  cases x with
  | tmp t => exact h t (by unfold Oper.looksAt; exact List.mem_append_left _ (List.mem_filterMap.2 ⟨.tmp t, by simpa using hx, rfl⟩))
  | _ => rfl
theorem looks_wanted {o : Oper} {e e' : Env} (h : ∀ t ∈ o.looksAt ops, e t = e' t) : Region.wanted o (yl ops e) = Region.wanted o (yl ops e') := by
  unfold Region.wanted
  cases hg : o.guard with
  | none => rfl
  | some gw =>
    obtain ⟨g, want⟩ := gw
    simp only [yl]
    cases hd : (ops[g]?).bind (·.dst) with
    | none => rfl
    | some d =>
      have := h d (by unfold Oper.looksAt; exact List.mem_append_right _ (by simp [hg, hd]))
      simp only [this]
theorem Still.of_same {o : Oper} {v : Value} {e e' : Env} (hk : kindOk o = true) (h : ∀ t ∈ o.looksAt ops, e t = e' t) (hs : Still P G ops L o v e) : Still P G ops L o v e' := by
  unfold Still at *
  have hsel : ∀ cs b, o.op ≠ .select cs b := fun cs b he => by simp [kindOk, he] at hk
  rw [← looks_wanted h, ← execOp_congr o hsel (looks_ev h)]
  exact hs
/-- What the heads' walk shows: an environment at which every head is still. -/
theorem hw_final {K : Env → Prop} : ∀ (rest : List Oper) (e : Env), HW P G ops L K rest e → rest.all kindOk = true → (∀ i, i < rest.length → dOf rest i ≠ none) →
    (∀ (i : Nat) (o : Oper), rest[i]? = some o → ∀ t ∈ o.looksAt ops, ∀ j, i ≤ j → dOf rest j ≠ some t) → (∀ (i j : Nat), i < j → dOf rest i ≠ none → dOf rest j ≠ dOf rest i) →
    ∃ es, K es ∧ (∀ t, (∀ j, dOf rest j ≠ some t) → es t = e t) ∧ ∀ (i : Nat) (o : Oper) (d : Nat), rest[i]? = some o → o.dst = some d → Still P G ops L o (es d) es
  | [], e, h, _, _, _, _ => ⟨e, h, fun _ _ => rfl, fun i o d h => by simp at h⟩
  | o :: rest, e, h, hk, hd, h1, h2 => by
    obtain ⟨v, hs, hK⟩ := h.out
    simp only [List.all_cons, Bool.and_eq_true] at hk
    have hsh : ∀ j, dOf (o :: rest) (j + 1) = dOf rest j := fun j => by simp [dOf]
    have h00 : dOf (o :: rest) 0 = o.dst := by simp [dOf]
    have hd0' := hd 0 (by simp)
    rw [h00] at hd0'
    obtain ⟨d, hdo⟩ := Option.ne_none_iff_exists'.1 hd0'
    rw [hdo] at hK
    obtain ⟨es, hKs, hoff, hst⟩ := hw_final rest _ hK hk.2 (fun i hi => by rw [← hsh]; exact hd (i + 1) (by simpa using hi)) (fun i o' hi t ht j hij => by rw [← hsh]; exact h1 (i + 1) o' (by simpa using hi) t ht (j + 1) (by omega))
      (fun i j hij hn => by rw [← hsh, ← hsh]; exact h2 (i + 1) (j + 1) (by omega) (by rw [hsh]; exact hn))
    have hd0 : ∀ j, dOf rest j ≠ some d := fun j hj => by
      have := h2 0 (j + 1) (by omega) (by rw [h00, hdo]; simp)
      rw [hsh, h00, hdo] at this
      exact this hj
    have hv : es d = v := by rw [hoff d hd0]; exact upd_same _ _ _
    refine ⟨es, hKs, fun t ht => ?_, fun i o' d' hi hdi => ?_⟩
    · have ht0 : t ≠ d := fun hh => ht 0 (by rw [h00, hdo, hh])
      rw [hoff t (fun j hj => ht (j + 1) (by rw [hsh]; exact hj))]
      exact upd_ne _ _ ht0
    · cases i with
      | zero =>
        have : o = o' := by simpa using hi
        subst this
        rw [hdo] at hdi; injection hdi with hdi; subst hdi
        rw [hv]
        refine hs.of_same hk.1 fun t ht => ?_
        have ht0 : t ≠ d := fun hh => h1 0 o (by simp) t ht 0 (Nat.le_refl _) (by rw [h00, hdo, hh])
        rw [hoff t (fun j hj => h1 0 o (by simp) t ht (j + 1) (by omega) (by rw [hsh]; exact hj))]
        exact (upd_ne _ _ ht0).symm
      | succ i => exact hst i o' d' (by simpa using hi) hdi
end

/-! ### Every order -/
theorem getD_replicate_false' (m j : Nat) : (Array.replicate m false).getD j false = false := by
  rcases Nat.lt_or_ge j m with h | h
  · simp [h]
  · simp [h]
theorem not_listed {listed : Array Bool} {i : Nat} (h : listed.getD i true = false) : listed.getD i false = false := by
  rcases Nat.lt_or_ge i listed.size with h' | h'
  · simpa [h'] using h
  · simp [Array.getElem?_eq_none h'] at h
theorem not_listed' {listed : Array Bool} {i : Nat} (hi : i < listed.size) (h : listed.getD i false = false) : listed.getD i true = false := by simpa [hi] using h
theorem set_listed {listed : Array Bool} {i j : Nat} (hi : i < listed.size) : (listed.setIfInBounds i true).getD j false = if j = i then true else listed.getD j false := by
  by_cases h : j = i
  · subst h; simp [hi]
  · rw [if_neg h, getD_set_ne false (Ne.symm h)]
def uh (listed : Array Bool) : Nat → Nat
  | 0 => 0
  | k + 1 => uh listed k + if listed.getD k false then 0 else 1
theorem uh_same {l l' : Array Bool} : ∀ k, (∀ j, j < k → l'.getD j false = l.getD j false) → uh l' k = uh l k
  | 0, _ => rfl
  | k + 1, h => by simp only [uh]; rw [uh_same k (fun j hj => h j (by omega)), h k (by omega)]
theorem uh_set {listed : Array Bool} {i : Nat} (hi : i < listed.size) (hl : listed.getD i false = false) : ∀ k, i < k → uh (listed.setIfInBounds i true) k + 1 = uh listed k
  | 0, h => by omega
  | k + 1, h => by
    simp only [uh]
    by_cases hik : i = k
    · subst hik
      have e1 : uh (listed.setIfInBounds i true) i = uh listed i := uh_same i (fun j hj => by rw [set_listed hi, if_neg (by omega)])
      have e2 : (listed.setIfInBounds i true).getD i false = true := by rw [set_listed hi, if_pos rfl]
      rw [e1, e2, hl]; simp
    · have := uh_set hi hl k (by omega)
      have e2 : (listed.setIfInBounds i true).getD k false = listed.getD k false := by rw [set_listed hi, if_neg (Ne.symm hik)]
      rw [e2]; omega
theorem uh_zero {listed : Array Bool} : ∀ k, (∀ j, j < k → listed.getD j false = true) → uh listed k = 0
  | 0, _ => rfl
  | k + 1, h => by simp only [uh]; rw [uh_zero k (fun j hj => h j (by omega)), h k (by omega)]; rfl
theorem uh_pos {listed : Array Bool} : ∀ k, 0 < uh listed k → ∃ j, j < k ∧ listed.getD j false = false
  | 0, h => by simp [uh] at h
  | k + 1, h => by
    simp only [uh] at h
    cases hk : listed.getD k false with
    | false => exact ⟨k, by omega, hk⟩
    | true => rw [hk] at h; obtain ⟨j, hj, hl⟩ := uh_pos k (by simpa using h); exact ⟨j, by omega, hl⟩

section
variable {P : Program} {r : Option Nat} {Q : Exit → Act → World → Prop} {l : List Oper} {n : Nat}
structure DFacts (l : List Oper) (n : Nat) : Prop where
  le : n ≤ l.length
  kind : l.all kindOk = true
  wf : ∀ (i : Nat) (o : Oper), l[i]? = some o → ∀ x ∈ o.after, Region.binds .any x = true → x.on < i
  dst : ∀ i, i < n → dOf l i ≠ none
  looks : ∀ (i : Nat) (o : Oper), i < n → l[i]? = some o → ∀ t ∈ o.looksAt l.toArray, ∀ j, j < n → dOf l j = some t → j < i ∧ waits l i j = true
  uniq : ∀ i j, i < n → j < n → j ≠ i → dOf l j ≠ dOf l i
  sink : n = l.length ∨ ∀ i, i < n → ∃ j, i < j ∧ j ≤ n ∧ waits l j i = true
  chain : ∀ t, t < l.length → n < t → waits l t (t - 1) = true
theorem dFacts (h : dOk l n = true) : DFacts l n := by
  simp only [dOk, Bool.and_eq_true, decide_eq_true_eq, List.all_eq_true, List.mem_range, Bool.or_eq_true, List.any_eq_true] at h
  obtain ⟨⟨⟨⟨⟨h1, h2⟩, h3⟩, h4⟩, h5⟩, h6⟩ := h
  have hh : ∀ i, i < n → ∃ o, l[i]? = some o ∧ o.dst ≠ none ∧ (∀ t ∈ o.looksAt l.toArray, ∀ j, j < n → dOf l j = some t → j < i ∧ waits l i j = true) ∧ ∀ j, j < n → j ≠ i → dOf l j ≠ o.dst := fun i hi => by
    have := h3 i hi
    unfold headOk at this
    cases ho : l[i]? with
    | none => simp [ho] at this
    | some o =>
      simp only [ho, Bool.and_eq_true, List.all_eq_true, List.mem_range, Bool.or_eq_true, Bool.not_eq_true', decide_eq_true_eq] at this
      obtain ⟨⟨a1, a2⟩, a3⟩ := this
      refine ⟨o, rfl, fun hn => by simp [hn] at a1, fun t ht j hj hd => ?_, fun j hj hne hd => ?_⟩
      · rcases a2 t ht j hj with h' | h'
        · simp [hd] at h'
        · exact h'
      · rcases a3 j hj with h' | h'
        · exact hne h'
        · simp [hd] at h'
  refine ⟨h1, by simpa using h2, fun i o hi x hx hb => ?_, fun i hi => ?_, fun i o hi ho => ?_, fun i j hi hj hne => ?_, h5.imp id (fun h5 i hi => ?_), fun t ht hn => ?_⟩
  · have := h4 i (List.getElem?_eq_some_iff.1 hi).1
    simp only [hi, Array.all_eq_true_iff_forall_mem, Bool.or_eq_true, Bool.not_eq_true', decide_eq_true_eq] at this
    rcases this x hx with h' | h'
    · rw [hb] at h'; cases h'
    · exact h'
  · obtain ⟨o, ho, hd, _⟩ := hh i hi
    simp [dOf, ho, hd]
  · obtain ⟨o', ho', _, h', _⟩ := hh i hi
    rw [ho] at ho'; injection ho' with ho'; subst ho'; exact h'
  · obtain ⟨o, ho, _, _, h'⟩ := hh i hi
    have := h' j hj hne
    simpa [dOf, ho] using this
  · obtain ⟨j, hj, h1, h2⟩ := h5 i hi
    exact ⟨j, h1, by omega, h2⟩
  · rcases h6 t ht with h' | h'
    · omega
    · exact h'
theorem waits_spec {k j : Nat} (h : waits l k j = true) : ∃ o, l[k]? = some o ∧ ∃ x ∈ o.after, Region.binds .any x = true ∧ x.on = j := by
  unfold waits at h
  split at h
  · rename_i o ho
    obtain ⟨x, hx, hb⟩ := Array.any_eq_true'.1 h
    simp only [Bool.and_eq_true, beq_iff_eq] at hb
    exact ⟨o, ho, x, hx, hb⟩
  · cases h
def Closed (l : List Oper) (listed : Array Bool) : Prop := ∀ (i : Nat) (o : Oper), l[i]? = some o → listed.getD i false = true → ∀ x ∈ o.after, Region.binds .any x = true → listed.getD x.on false = true
theorem Closed.waits {listed : Array Bool} (h : Closed l listed) {k j : Nat} (hk : listed.getD k false = true) (hw : waits l k j = true) : listed.getD j false = true := by
  obtain ⟨o, ho, x, hx, hb, rfl⟩ := waits_spec hw
  exact h k o ho hk x hx hb
theorem ready_waits {listed : Array Bool} {k j : Nat} (hk : k ∈ Region.ready .any l.toArray listed) (hw : waits l k j = true) : listed.getD j false = true := by
  obtain ⟨_, o', ho', hall⟩ := mem_ready.1 hk
  obtain ⟨o, ho, x, hx, hb, rfl⟩ := waits_spec hw
  have : o' = o := by
    have h1 : l[k]? = some o' := by simpa using ho'
    rw [h1] at ho; exact Option.some.inj ho
  subst this
  exact hall x hx hb
theorem heads_listed (F : DFacts l n) {listed : Array Bool} (hc : Closed l listed) (hn : n < l.length) (hr : ∀ j, waits l n j = true → listed.getD j false = true) : ∀ d i, n - i = d → i < n → listed.getD i false = true := by
  intro d
  induction d using Nat.strongRecOn with
  | _ d ih =>
    intro i hd hi
    rcases F.sink with h | h
    · omega
    · obtain ⟨j, h1, h2, h3⟩ := h i hi
      by_cases hj : j = n
      · subst hj; exact hr i h3
      · exact hc.waits (ih (n - j) (by omega) j rfl (by omega)) h3
theorem tail_all (F : DFacts l n) {listed : Array Bool} (hc : Closed l listed) : ∀ t, n ≤ t → t < l.length → (∀ j, waits l t j = true → listed.getD j false = true) → ∀ j, j < t → listed.getD j false = true := by
  intro t
  induction t with
  | zero => intro _ _ _ j hj; omega
  | succ t ih =>
    intro hn hlt hw j hj
    by_cases htn : n = t + 1
    · subst htn; exact heads_listed F hc hlt hw _ j rfl hj
    · have h1 := hw t (by have := F.chain (t + 1) hlt (by omega); simpa using this)
      by_cases hjt : j = t
      · subst hjt; exact h1
      · exact ih (by omega) (by omega) (fun j hj => hc.waits h1 hj) j (by omega)
theorem closed_set {listed : Array Bool} (hc : Closed l listed) {i : Nat} (hr : i ∈ Region.ready .any l.toArray listed) (hs : i < listed.size) : Closed l (listed.setIfInBounds i true) := by
  obtain ⟨_, o', ho', hall⟩ := mem_ready.1 hr
  intro k o ho hk x hx hb
  rw [set_listed hs] at hk ⊢
  by_cases hxi : x.on = i
  · rw [if_pos hxi]
  · rw [if_neg hxi]
    by_cases hki : k = i
    · subst hki
      have : o = o' := by
        have h1 : l[k]? = some o' := by simpa using ho'
        rw [h1] at ho; exact (Option.some.inj ho).symm
      subst this
      exact hall x hx hb
    · rw [if_neg hki] at hk
      exact hc k o ho hk x hx hb
theorem least_ready (F : DFacts l n) {listed : Array Bool} (hs : listed.size = l.length) : ∀ i, i < l.length → listed.getD i false = false → ∃ j, j ∈ Region.ready .any l.toArray listed := by
  intro i
  induction i using Nat.strongRecOn with
  | _ i ih =>
    intro hi hl
    by_cases hall : ∃ j, j < i ∧ listed.getD j false = false
    · obtain ⟨j, hj, hjl⟩ := hall; exact ih j hj (by omega) hjl
    · refine ⟨i, mem_ready.2 ⟨not_listed' (by omega) hl, l[i], by simp [hi], fun x hx hb => ?_⟩⟩
      have := F.wf i l[i] (by simp [hi]) x hx hb
      cases h : listed.getD x.on false with
      | true => rfl
      | false => exact absurd ⟨x.on, this, h⟩ hall
theorem ready_lt {listed : Array Bool} {i : Nat} (h : i ∈ Region.ready .any l.toArray listed) : i < l.length ∧ listed.getD i false = false := by
  obtain ⟨h0, o, ho, _⟩ := mem_ready.1 h
  exact ⟨by have := (Array.getElem?_eq_some_iff.1 ho).1; simpa using this, not_listed h0⟩
/-- The tail: one behind the other. -/
theorem any_tail (F : DFacts l n) : ∀ (fuel k : Nat) (listed : Array Bool) (a : Act) (w : World), listed.size = l.length → Closed l listed → (∀ j, j < l.length → (listed.getD j false = true ↔ j < k)) → n ≤ k → k ≤ l.length → l.length ≤ k + fuel →
    wpL (FW r) P l.toArray Q (l.drop k) a w → wpAnyIn (FW r) 0 P .any l.toArray Q fuel listed a w := by
  intro fuel
  induction fuel with
  | zero =>
    intro k listed a w hs hc hl hn hk hf h
    have hkl : k = l.length := by omega
    subst hkl
    refine ⟨?_, by simpa [wpL] using h⟩
    rw [List.eq_nil_iff_forall_not_mem]
    intro i hi
    have := ready_lt hi
    have h2 := (hl i this.1).2 this.1
    rw [this.2] at h2; cases h2
  | succ fuel ih =>
    intro k listed a w hs hc hl hn hk hf h
    have honly : ∀ i ∈ Region.ready .any l.toArray listed, i = k := fun i hi => by
      have h1 := ready_lt hi
      have hik : k ≤ i := by
        rcases Nat.lt_or_ge i k with h' | h'
        · have := (hl i h1.1).2 h'; rw [h1.2] at this; cases this
        · exact h'
      rcases Nat.lt_or_ge k i with h' | h'
      · have hw := F.chain i h1.1 (by omega)
        have := (hl (i - 1) (by omega)).1 (ready_waits hi hw)
        omega
      · omega
    refine ⟨fun h0 => ?_, fun i hi => ?_⟩
    · rcases Nat.lt_or_ge k l.length with hlt | hge
      · have hnl : listed.getD k false = false := by
          cases hh : listed.getD k false with
          | false => rfl
          | true => have := (hl k hlt).1 hh; omega
        obtain ⟨j, hj⟩ := least_ready F hs k hlt hnl
        rw [h0] at hj; cases hj
      · have hkl : k = l.length := by omega
        subst hkl
        simpa [wpL] using h
    · obtain rfl := honly i hi
      have hlt := (ready_lt hi).1
      have hdrop : l.drop i = l[i] :: l.drop (i + 1) := List.drop_eq_getElem_cons hlt
      rw [hdrop] at h
      unfold wpOpIn
      simp only [List.getElem?_toArray, List.getElem?_eq_getElem hlt]
      have hk' : ∀ a w, wpL (FW r) P l.toArray Q (l.drop (i + 1)) a w → wpAnyIn (FW r) 0 P .any l.toArray Q fuel (listed.setIfInBounds i true) a w := fun a w hh =>
        ih (i + 1) _ a w (by simp [hs]) (closed_set hc hi (by omega)) (fun j hj => by rw [set_listed (by omega)]; by_cases hji : j = i; { subst hji; simp }; { rw [if_neg hji, hl j hj]; omega }) (by omega) (by omega) (by omega) hh
      simp only [wpL] at h
      split
      · rename_i hw; rw [if_pos hw] at h; exact Oper.wpIn_mono hk' h
      · rename_i hw; rw [if_neg hw] at h; exact ⟨about_FW, hk' _ _ h⟩
/-- The heads, in whatever order. -/
theorem any_heads (F : DFacts l n) {m : Nat} {D : List Deferred} {es e0 : Env} {w : World} (hdst : l.all (dstOk m) = true)
    (hst : ∀ (i : Nat) (o : Oper) (d : Nat), i < n → l[i]? = some o → o.dst = some d → (Region.wanted o (yl l.toArray es) = true ∧ (execOp (ev es) o).run P w = .ok (.value (es d)) w) ∨ (Region.wanted o (yl l.toArray es) = false ∧ es d = undef))
    (hoff : ∀ t, (∀ j, j < n → dOf l j ≠ some t) → es t = e0 t)
    (htail : ∀ a, Rp m es D a → wpL (FW r) P l.toArray Q (l.drop n) a w) :
    ∀ (fuel : Nat) (listed : Array Bool) (a : Act), uh listed n + (l.length - n) ≤ fuel → listed.size = l.length → Closed l listed → (∀ j, n ≤ j → listed.getD j false = false) →
      (∃ e, Rp m e D a ∧ (∀ t, (∀ j, j < n → dOf l j ≠ some t) → e t = e0 t) ∧ ∀ j t, j < n → dOf l j = some t → listed.getD j false = true → e t = es t) →
      wpAnyIn (FW r) 0 P .any l.toArray Q fuel listed a w := by
  intro fuel
  induction fuel with
  | zero =>
    intro listed a hf hs hc ht ⟨e, hrp, h1, h2⟩
    have hall : ∀ j, j < n → listed.getD j false = true := fun j hj => by
      cases hh : listed.getD j false with
      | true => rfl
      | false => have := uh_set (by have := F.le; omega) hh n hj; omega
    refine any_tail F 0 n listed a w hs hc (fun j hj => ⟨fun h => ?_, fun h => hall j h⟩) (Nat.le_refl _) F.le (by omega) (htail a ?_)
    · rcases Nat.lt_or_ge j n with h' | h'
      · exact h'
      · rw [ht j h'] at h; cases h
    · have : e = es := by
        funext t
        by_cases hd : ∃ j, j < n ∧ dOf l j = some t
        · obtain ⟨j, hj, hd⟩ := hd; exact h2 j t hj hd (hall j hj)
        · rw [h1 t (fun j hj hh => hd ⟨j, hj, hh⟩), hoff t (fun j hj hh => hd ⟨j, hj, hh⟩)]
      rw [← this]; exact hrp
  | succ fuel ih =>
    intro listed a hf hs hc ht ⟨e, hrp, h1, h2⟩
    by_cases hall : ∀ j, j < n → listed.getD j false = true
    · refine any_tail F (fuel + 1) n listed a w hs hc (fun j hj => ⟨fun h => ?_, fun h => hall j h⟩) (Nat.le_refl _) F.le (by have := F.le; omega) (htail a ?_)
      · rcases Nat.lt_or_ge j n with h' | h'
        · exact h'
        · rw [ht j h'] at h; cases h
      · have : e = es := by
          funext t
          by_cases hd : ∃ j, j < n ∧ dOf l j = some t
          · obtain ⟨j, hj, hd⟩ := hd; exact h2 j t hj hd (hall j hj)
          · rw [h1 t (fun j hj hh => hd ⟨j, hj, hh⟩), hoff t (fun j hj hh => hd ⟨j, hj, hh⟩)]
        rw [← this]; exact hrp
    · have hex : ∃ j, j < n ∧ listed.getD j false = false := by
        refine Classical.byContradiction fun hno => hall fun j hj => ?_
        cases hh : listed.getD j false with
        | true => rfl
        | false => exact absurd ⟨j, hj, hh⟩ hno
      obtain ⟨j0, hj0, hjl0⟩ := hex
      refine ⟨fun h0 => ?_, fun i hi => ?_⟩
      · obtain ⟨j, hj⟩ := least_ready F hs j0 (by have := F.le; omega) hjl0
        rw [h0] at hj; cases hj
      · have hi1 := ready_lt hi
        have hin : i < n := by
          rcases Nat.lt_or_ge i n with h' | h'
          · exact h'
          · have := tail_all F hc i h' hi1.1 (fun j hj => ready_waits hi hj) j0 (by omega)
            rw [hjl0] at this; cases this
        obtain ⟨o, ho⟩ : ∃ o, l[i]? = some o := ⟨l[i]'hi1.1, by simp [hi1.1]⟩
        have hko : kindOk o = true := List.all_eq_true.1 F.kind o (List.mem_of_getElem? ho)
        have hdo := F.dst i hin
        obtain ⟨d, hd⟩ : ∃ d, o.dst = some d := by
          have : dOf l i = o.dst := by simp [dOf, ho]
          rw [this] at hdo; exact Option.ne_none_iff_exists'.1 hdo
        have hdi : dOf l i = some d := by simp [dOf, ho, hd]
        have hlook : ∀ t ∈ o.looksAt l.toArray, e t = es t := fun t ht => by
          by_cases hx : ∃ j, j < n ∧ dOf l j = some t
          · obtain ⟨j, hj, hjd⟩ := hx
            exact h2 j t hj hjd (ready_waits hi (F.looks i o hin ho t ht j hj hjd).2)
          · rw [h1 t (fun j hj hh => hx ⟨j, hj, hh⟩), hoff t (fun j hj hh => hx ⟨j, hj, hh⟩)]
        have hsel : ∀ cs b, o.op ≠ .select cs b := fun cs b he => by simp [kindOk, he] at hko
        have hdef : ∀ c, o.op ≠ .defer c := fun c he => by simp [kindOk, he] at hko
        have hdm : dstOk m o = true := List.all_eq_true.1 hdst o (List.mem_of_getElem? ho)
        have hgo : ∀ v, v = es d → wpAnyIn (FW r) 0 P .any l.toArray Q fuel (listed.setIfInBounds i true) (a.put o.dst v) w := fun v hv => by
          refine ih _ _ ?_ (by simp [hs]) (closed_set hc hi (by omega)) (fun j hj => by rw [set_listed (by omega), if_neg (by omega)]; exact ht j hj) ⟨updO e o.dst v, hrp.put _ _ hdm, fun t ht' => ?_, fun j t hj hjd hl => ?_⟩
          · have := uh_set (by omega) hi1.2 n hin; omega
          · rw [hd]
            have : t ≠ d := fun hh => ht' i hin (by rw [hdi, hh])
            simp only [updO, upd_ne _ _ this]
            exact h1 t ht'
          · rw [hd]
            by_cases hji : j = i
            · subst hji
              rw [hdi] at hjd; injection hjd with hjd; subst hjd
              simp only [updO, upd_same]; exact hv
            · have : t ≠ d := fun hh => F.uniq i j hin hj hji (by rw [hjd, hdi, hh])
              simp only [updO, upd_ne _ _ this]
              rw [set_listed (by omega), if_neg hji] at hl
              exact h2 j t hj hjd hl
        unfold wpOpIn
        simp only [List.getElem?_toArray, ho]
        have hwant : Region.wanted o (yielded l.toArray a.tmps) = Region.wanted o (yl l.toArray es) := by
          rw [← looks_wanted hlook]
          have : yielded l.toArray a.tmps = yl l.toArray e := by funext j; exact hrp.yielded _ j
          rw [this]
        rw [hwant]
        rcases hst i o d hin ho hd with ⟨hw1, hr1⟩ | ⟨hw1, hr1⟩
        · rw [if_pos hw1]
          refine ⟨about_FW, ?_⟩
          rw [Oper.semAt_eq _ _ _ hdef, hrp.eval, execOp_congr o hsel (looks_ev hlook), hr1, Oper.uponIn_value]
          exact hgo _ rfl
        · rw [if_neg (by rw [hw1]; simp)]
          exact ⟨about_FW, hgo _ hr1.symm⟩
end
/-- A region whose order is drawn: the first n operations only read, the others follow one another. -/
theorem cw_draw {P : Program} {G : Cx} {Q : Po} {D : List Deferred} {e : Env} {L : Heap} {id : Nat} {l : List Oper} (n : Nat) (hm : P.follows .mixedOrders = true) (hchk : dOk l n = true) (hd : l.all (dstOk G.m) = true)
    (h : HW P G l.toArray L (fun e' => OW P G l.toArray Q (l.drop n) D e' L) (l.take n) e) : CW P G (.region id l.toArray true) Q D e L :=
  ⟨fun a w ha hw => by
    have F := dFacts hchk
    refine wpIn_region_any hm ?_
    have hw' : Tr G.w0 G.A0 { w with drawn := w.drawn + 1 } L := hw.same rfl rfl rfl rfl
    have htk : ∀ i, i < n → dOf (l.take n) i = dOf l i := fun i hi => by simp [dOf, List.getElem?_take_of_lt hi]
    have hge : ∀ i, n ≤ i → dOf (l.take n) i = none := fun i hi => by simp [dOf, List.getElem?_take, Nat.not_lt.2 hi]
    have hget : ∀ (i : Nat) (o : Oper), (l.take n)[i]? = some o → i < n ∧ l[i]? = some o := fun i o hi => by
      have hin : i < n := by
        have := (List.getElem?_eq_some_iff.1 hi).1
        rw [List.length_take] at this; omega
      exact ⟨hin, by rwa [List.getElem?_take_of_lt hin] at hi⟩
    obtain ⟨es, hK, hoff, hst⟩ := hw_final (l.take n) e h (List.all_eq_true.2 fun o ho => List.all_eq_true.1 F.kind o (List.mem_of_mem_take ho))
      (fun i hi => by have hin : i < n := by { rw [List.length_take] at hi; omega }; rw [htk i hin]; exact F.dst i hin)
      (fun i o hi t ht j hij hj => by
        obtain ⟨hin, hio⟩ := hget i o hi
        rcases Nat.lt_or_ge j n with hjn | hjn
        · rw [htk j hjn] at hj
          have := (F.looks i o hin hio t ht j hjn hj).1; omega
        · rw [hge j hjn] at hj; cases hj)
      (fun i j hij hne => by
        rcases Nat.lt_or_ge i n with hin | hin
        · rw [htk i hin] at hne ⊢
          rcases Nat.lt_or_ge j n with hjn | hjn
          · rw [htk j hjn]; exact F.uniq i j hin hjn (by omega)
          · rw [hge j hjn]; exact Ne.symm hne
        · rw [hge i hin] at hne; exact absurd rfl hne)
    refine any_heads F hd (m := G.m) (D := D) (es := es) (e0 := e) (fun i o d hin hio hdo => ?_) (fun t ht => hoff t (fun j hj => ?_)) (fun a' ha' => ?_) _ _ _ ?_ (by simp) ?_ (fun j hj => ?_) ⟨e, ha, fun _ _ => rfl, fun j t hj hd hl => ?_⟩
    · rcases hst i o d (by rw [List.getElem?_take_of_lt hin]; exact hio) hdo with ⟨h1, h2⟩ | ⟨h1, h2⟩
      · exact .inl ⟨h1, h2 _ hw'⟩
      · exact .inr ⟨h1, h2⟩
    · rcases Nat.lt_or_ge j n with hjn | hjn
      · rw [htk j hjn] at hj; exact ht j hjn hj
      · rw [hge j hjn] at hj; cases hj
    · exact hK.out (List.all_eq_true.2 fun o ho => List.all_eq_true.1 hd o (List.mem_of_mem_drop ho)) a' _ ha' hw'
    · have : ∀ k, uh (Array.replicate l.toArray.size false) k = k := fun k => by
        induction k with
        | zero => rfl
        | succ k ih => simp only [uh, ih]; rw [getD_replicate_false']; rfl
      rw [this]
      have := F.le
      simp only [List.size_toArray]; omega
    · intro i o ho hl
      rw [getD_replicate_false'] at hl; cases hl
    · exact getD_replicate_false' _ _
    · rw [getD_replicate_false'] at hl; cases hl⟩
end Go.Proofs.Ytomaldjedncjoaa.E
