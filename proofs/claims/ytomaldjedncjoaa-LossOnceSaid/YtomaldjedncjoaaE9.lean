/-
The walk's ninth part: regions whose order is drawn, walked order by order; what only reads resources that nobody changes is taken first.
Conditions: none; these are general lemmas.
-/
import Derived.Test.YtomaldjedncjoaaE8
set_option linter.unusedVariables false
set_option linter.unusedSimpArgs false
namespace Go.Proofs.Ytomaldjedncjoaa.E
open Go

section
variable {r : Option Nat} {P : Program} {ops : Array Oper} {Q : Exit → Act → World → Prop} {I : World → Prop}
def wpX (r : Option Nat) (P : Program) (ops : Array Oper) (Q : Exit → Act → World → Prop) (I : World → Prop) : Nat → Array Bool → Act → World → Prop
  | 0, listed, a, w => I w ∧ Region.ready .any ops listed = [] ∧ Q .normal a w
  | fuel + 1, listed, a, w => I w ∧ (Region.ready .any ops listed = [] → Q .normal a w) ∧
    ∀ i ∈ Region.ready .any ops listed, wpOpIn (FW r) 0 P ops Q i (wpX r P ops Q I fuel (listed.setIfInBounds i true)) a w
theorem wpX_any : ∀ (fuel : Nat) (listed : Array Bool) (a : Act) (w : World), wpX r P ops Q I fuel listed a w → wpAnyIn (FW r) 0 P .any ops Q fuel listed a w
  | 0, _, _, _, h => h.2
  | fuel + 1, listed, a, w, h => ⟨h.2.1, fun i hi => wpOpIn_mono (fun a w h => wpX_any fuel _ a w h) (h.2.2 i hi)⟩
def YI (P : Program) (ops : Array Oper) (I : World → Prop) (o : Oper) (v : Value) (a : Act) : Prop :=
  (Region.wanted o (yielded ops a.tmps) = true ∧ ∀ w, I w → (execOp a.eval o).run P w = .ok (.value v) w) ∨ (Region.wanted o (yielded ops a.tmps) = false ∧ v = undef)
theorem YI.of_same {o : Oper} {v : Value} {a a' : Act} (hy : YI P ops I o v a) (he : execOp a'.eval o = execOp a.eval o) (hw : Region.wanted o (yielded ops a'.tmps) = Region.wanted o (yielded ops a.tmps)) : YI P ops I o v a' := by
  unfold YI at *; rw [he, hw]; exact hy
theorem YI.wpOp {i : Nat} {o : Oper} {v : Value} {a : Act} (hd : ∀ c, o.op ≠ .defer c) (hi : ops[i]? = some o) (hy : YI P ops I o v a) {K : Act → World → Prop} {w : World} (hI : I w) (h : K (a.put o.dst v) w) : wpOpIn (FW r) 0 P ops Q i K a w := by
  unfold wpOpIn
  simp only [hi]
  rcases hy with ⟨hw, hv⟩ | ⟨hw, rfl⟩
  · simp only [hw, if_true, Oper.wpIn, Oper.semAt_eq _ _ _ hd, hv w hI, Oper.uponIn]; exact ⟨about_FW, h⟩
  · simp only [hw, Bool.false_eq_true, if_false]; exact ⟨about_FW, h⟩
theorem wpOp_putX {j : Nat} {oi oj : Oper} {v : Value} (hj : ops[j]? = some oj) (hap : oi.apart ops oj = true) (hsi : ∀ cs b, oi.op ≠ .select cs b) (hsj : ∀ cs b, oj.op ≠ .select cs b) (hdj : ∀ c, oj.op ≠ .defer c)
    (hQ : ∀ c a w, Q (.panic c) (a.put oi.dst v) w → Q (.panic c) a w) {K : Act → World → Prop} {a : Act} {w : World} (hy : YI P ops I oi v a) (h : wpOpIn (FW r) 0 P ops Q j K (a.put oi.dst v) w) :
    wpOpIn (FW r) 0 P ops Q j (fun a' w' => YI P ops I oi v a' ∧ K (a'.put oi.dst v) w') a w := by
  obtain ⟨h1, h2, h3⟩ := Oper.apart_spec hap
  have keep : ∀ (a : Act), YI P ops I oi v a → ∀ u, YI P ops I oi v (a.put oj.dst u) := fun a hy u => hy.of_same (execOp_put oi hsi a oj.dst u h3) (wanted_put oi a oj.dst u h3)
  unfold wpOpIn at *
  simp only [hj] at *
  rw [wanted_put oj a oi.dst v h1] at h
  split
  · rename_i hw
    simp only [hw, if_true] at h
    unfold Oper.wpIn at *
    refine ⟨about_FW, ?_⟩
    have h := h.2
    rw [Oper.semAt_eq _ _ _ hdj, execOp_put oj hsj a oi.dst v h1] at h
    rw [Oper.semAt_eq _ _ _ hdj]
    generalize hr : (execOp a.eval oj).run P w = res at *
    cases res with
    | ok x w' =>
      cases x <;> simp only [Oper.uponIn] at h ⊢
      case value u => exact ⟨keep a hy u, by rw [← Act.put_comm a v u h2]; exact h⟩
      case skip => exact ⟨keep a hy _, by rw [← Act.put_comm a v undef h2]; exact h⟩
      case defer d => exact ⟨(keep { a with defers := d :: a.defers } (hy.of_same rfl rfl) _), by rw [← Act.put_comm _ v undef h2, ← Act.put_defers]; exact h⟩
      case enter f args =>
        refine ⟨h.1, CallsIn.mono h.2 fun e w'' he => ?_⟩
        cases e with
        | returned u => exact ⟨keep a hy u, by rw [← Act.put_comm a v u h2]; exact he⟩
        | panicked c => exact hQ _ _ _ he
        | outgrown => exact he
      case row row args => exact ⟨h.1, RowsIn.mono h.2 fun u w'' he => ⟨keep a hy u, by rw [← Act.put_comm a v u h2]; exact he⟩⟩
      case round l f tmps assign body =>
        refine ⟨h.1, RoundIn.mono h.2 fun e w'' he => ?_⟩
        cases e with
        | returned u => exact ⟨keep a hy u, by rw [← Act.put_comm a v u h2]; exact he⟩
        | panicked c => exact hQ _ _ _ he
        | outgrown => exact he
    | halt x w' =>
      cases x <;> simp only [Oper.uponIn] at h ⊢
      case panic u => exact hQ _ _ _ h
  · rename_i hw
    simp only [hw] at h
    exact ⟨about_FW, keep a hy _, by rw [← Act.put_comm a v undef h2]; exact h.2⟩
theorem wpX_first {i : Nat} {oi : Oper} {v : Value} (hi : ops[i]? = some oi) (hsel : ∀ (j : Nat) (o : Oper), ops[j]? = some o → kindOk o = true) (hQ : ∀ c a w, Q (.panic c) (a.put oi.dst v) w → Q (.panic c) a w) :
    ∀ (fuel : Nat) (listed : Array Bool) (a : Act) (w : World),
      (∀ j oj, ops[j]? = some oj → j ≠ i → listed.getD j true = false → (∀ e ∈ oj.after, Region.binds .any e = true → e.on ≠ i) → oi.apart ops oj = true) →
      i ∈ Region.ready .any ops listed → I w → YI P ops I oi v a → (I w → wpX r P ops Q I fuel (listed.setIfInBounds i true) (a.put oi.dst v) w) → wpX r P ops Q I (fuel + 1) listed a w := by
  have hs : ∀ (j : Nat) (o : Oper) cs b, ops[j]? = some o → o.op ≠ .select cs b := fun j o cs b ho he => by have := hsel j o ho; simp [kindOk, he] at this
  have hdf : ∀ (j : Nat) (o : Oper) c, ops[j]? = some o → o.op ≠ .defer c := fun j o c ho he => by have := hsel j o ho; simp [kindOk, he] at this
  intro fuel
  induction fuel with
  | zero =>
    intro listed a w _ hr hI hy H
    have H := H hI
    refine ⟨hI, fun h => (by rw [h] at hr; cases hr), fun j hj => ?_⟩
    by_cases hji : j = i
    · subst hji; exact hy.wpOp (hdf _ _ · hi) hi hI H
    · have := ready_mono hj hji
      rw [H.2.1] at this
      cases this
  | succ fuel ih =>
    intro listed a w hfree hr hI hy H
    have H := H hI
    refine ⟨hI, fun h => (by rw [h] at hr; cases hr), fun j hj => ?_⟩
    by_cases hji : j = i
    · subst hji; exact hy.wpOp (hdf _ _ · hi) hi hI H
    · have h1 := H.2.2 j (ready_mono hj hji)
      obtain ⟨hjun, oj, hoj, hall⟩ := mem_ready.1 hj
      have hnot : ∀ e ∈ oj.after, Region.binds .any e = true → e.on ≠ i := fun e he hb heq => by
        have h1 := hall e he hb
        have h0 := (mem_ready.1 hr).1
        rw [heq] at h1
        rcases Nat.lt_or_ge i listed.size with h' | h'
        · simp [h'] at h0 h1; rw [h0] at h1; cases h1
        · simp [Array.getElem?_eq_none h'] at h1
      have h2 := wpOp_putX hoj (hfree j oj hoj hji hjun hnot) (fun cs b => hs i oi cs b hi) (fun cs b => hs j oj cs b hoj) (hdf _ _ · hoj) hQ hy h1
      have hfree' : ∀ k ok, ops[k]? = some ok → k ≠ i → (listed.setIfInBounds j true).getD k true = false →
          (∀ e ∈ ok.after, Region.binds .any e = true → e.on ≠ i) → oi.apart ops ok = true := fun k ok hk hki hun hno => by
        refine hfree k ok hk hki ?_ hno
        by_cases hjk : j = k
        · subst hjk; exact hjun
        · rw [getD_set_ne true hjk] at hun; exact hun
      refine wpOpIn_mono (fun a' w' h3 => ?_) h2
      have hx := h3.2
      have hI' : I w' := by cases fuel <;> exact hx.1
      refine ih (listed.setIfInBounds j true) a' w' hfree' (ready_mono hr (Ne.symm hji)) hI' h3.1 fun _ => ?_
      rw [Array.setIfInBounds_comm _ _ hji]
      exact hx
end

/-! ### The judgement -/
def lst (n : Nat) : List Nat → Array Bool
  | [] => Array.replicate n false
  | i :: done => (lst n done).setIfInBounds i true
def axTake (l : List Oper) (done : List Nat) (i : Nat) : Bool := Nat.blt done.length l.length && l.all kindOk && Region.free .any l.toArray (lst l.length done) i && (Region.ready .any l.toArray (lst l.length done)).contains i
def axReady (l : List Oper) (done rs : List Nat) : Bool := Nat.blt done.length l.length && (Region.ready .any l.toArray (lst l.length done) == rs) && !rs.isEmpty
def axDone (l : List Oper) (done : List Nat) : Bool := (Region.ready .any l.toArray (lst l.length done)).isEmpty
structure AX (P : Program) (G : Cx) (l : List Oper) (Q : Po) (X : Heap) (done : List Nat) (D : List Deferred) (e : Env) (L : Heap) : Prop where
  out : l.all (dstOk G.m) = true → ∀ a w, Rp G.m e D a → Tr G.w0 G.A0 w L → wpX G.r P l.toArray (lift G Q) (fun w => Tr G.w0 G.A0 w X) (l.length - done.length) (lst l.length done) a w
section
variable {P : Program} {G : Cx} {l : List Oper} {Q : Po} {X : Heap} {done : List Nat} {D : List Deferred} {e : Env} {L : Heap}
theorem lift_panic {c : _} {a : Act} {w : World} {dst : Option Tmp} {v : Value} (h : lift G Q (.panic c) (a.put dst v) w) : lift G Q (.panic c) a w := h.1.elim
theorem ax_take {R : Heap} {o : Oper} (i : Nat) (hi : l[i]? = some o) (hc : axTake l done i = true) (hX : SelL L X R) (h : OpS P G l.toArray o (fun e' => AX P G l Q X (i :: done) D e' L) e X) : AX P G l Q X done D e L :=
  ⟨fun hd a w ha hw => by
    simp only [axTake, Bool.and_eq_true] at hc
    obtain ⟨⟨⟨h1, h2⟩, h3⟩, h4⟩ := hc
    have hlt : done.length < l.length := Nat.le_of_ble_eq_true h1
    obtain ⟨v, hs, hk⟩ := h.out
    have hfu : l.length - done.length = (l.length - (i :: done).length) + 1 := by simp; omega
    rw [hfu]
    have hsel : ∀ (j : Nat) (o : Oper), l.toArray[j]? = some o → kindOk o = true := fun j o ho => List.all_eq_true.1 h2 o (List.mem_of_getElem? (by simpa using ho))
    refine wpX_first (i := i) (oi := o) (v := v) (by simpa using hi) hsel (fun c a w h => lift_panic h) _ _ a w (Region.free_spec (by simpa using hi) h3) (by simpa using h4) (pickL hw hX) ?_ fun _ => hk.out hd _ w (ha.put _ _ (List.all_eq_true.1 hd o (List.mem_of_getElem? hi))) hw
    have hy : yielded l.toArray a.tmps = yl l.toArray e := by funext j; exact ha.yielded _ j
    rcases hs with ⟨a1, a2⟩ | ⟨a1, a2⟩
    · exact .inl ⟨by rw [hy]; exact a1, fun w hw => by rw [ha.eval]; exact a2 w hw⟩
    · exact .inr ⟨by rw [hy]; exact a1, a2⟩⟩
theorem ax_all {R : Heap} (rs : List Nat) (hc : axReady l done rs = true) (hX : SelL L X R) (h : ∀ i ∈ rs, ∀ o, l[i]? = some o → OpK P G l.toArray Q o (fun D e L => AX P G l Q X (i :: done) D e L) D e L) : AX P G l Q X done D e L :=
  ⟨fun hd a w ha hw => by
    simp only [axReady, Bool.and_eq_true, beq_iff_eq, Bool.not_eq_true'] at hc
    obtain ⟨⟨h1, h2⟩, h3⟩ := hc
    have hlt : done.length < l.length := Nat.le_of_ble_eq_true h1
    have hfu : l.length - done.length = (l.length - (done.length + 1)) + 1 := by omega
    rw [hfu]
    refine ⟨pickL hw hX, fun h0 => ?_, fun i hi => ?_⟩
    · rw [h0] at h2; subst h2; cases h3
    · rw [h2] at hi
      unfold wpOpIn
      cases ho : l[i]? with
      | none =>
        have := ready_lt (l := l) (by rw [h2]; exact hi)
        rw [List.getElem?_eq_none_iff] at ho; omega
      | some o =>
        simp only [List.getElem?_toArray, ho]
        have h4 := (h i hi o ho).out (List.all_eq_true.1 hd o (List.mem_of_getElem? ho)) a w ha hw
        have hk : ∀ a w, liftK G (fun D e L => AX P G l Q X (i :: done) D e L) a w → wpX G.r P l.toArray (lift G Q) (fun w => Tr G.w0 G.A0 w X) (l.length - (done.length + 1)) ((lst l.length done).setIfInBounds i true) a w := fun a w ⟨D, e, L, b1, b2, b3⟩ => b3.out hd a w b1 b2
        split
        · rename_i hw'; rw [if_pos hw'] at h4; exact Oper.wpIn_mono hk h4
        · rename_i hw'; rw [if_neg hw'] at h4; exact ⟨about_FW, hk _ _ h4⟩⟩
theorem ax_one {R : Heap} {o : Oper} (i : Nat) (hi : l[i]? = some o) (hc : axReady l done [i] = true) (hX : SelL L X R) (h : OpK P G l.toArray Q o (fun D e L => AX P G l Q X (i :: done) D e L) D e L) : AX P G l Q X done D e L :=
  ax_all [i] hc hX fun j hj o' ho => by
    obtain rfl := List.mem_singleton.1 hj
    rw [hi] at ho; injection ho with ho; subst ho; exact h
theorem ax_two {R : Heap} {o o' : Oper} (i j : Nat) (hi : l[i]? = some o) (hj : l[j]? = some o') (hc : axReady l done [i, j] = true) (hX : SelL L X R) (h : OpK P G l.toArray Q o (fun D e L => AX P G l Q X (i :: done) D e L) D e L)
    (h' : OpK P G l.toArray Q o' (fun D e L => AX P G l Q X (j :: done) D e L) D e L) : AX P G l Q X done D e L :=
  ax_all [i, j] hc hX fun k hk o2 ho => by
    rcases List.mem_cons.1 hk with rfl | hk
    · rw [hi] at ho; injection ho with ho; subst ho; exact h
    · obtain rfl := List.mem_singleton.1 hk
      rw [hj] at ho; injection ho with ho; subst ho; exact h'
theorem ax_is {o : Oper} {Q' : Po} (i : Nat) (hi : l[i]? = some o) (h : OpK P G l.toArray Q' o (fun D e L => AX P G l Q X (i :: done) D e L) D e L) : OpK P G l.toArray Q' o (fun D e L => AX P G l Q X (i :: done) D e L) D e L := h
theorem ax_done {R : Heap} (hc : axDone l done = true) (hX : SelL L X R) (h : Q .normal D e L) : AX P G l Q X done D e L :=
  ⟨fun hd a w ha hw => by
    have h0 : Region.ready .any l.toArray (lst l.length done) = [] := by simpa [axDone] using hc
    cases hf : l.length - done.length with
    | zero => exact ⟨pickL hw hX, h0, trivial, D, e, L, ha, hw, h⟩
    | succ f => exact ⟨pickL hw hX, fun _ => ⟨trivial, D, e, L, ha, hw, h⟩, fun i hi => by rw [h0] at hi; cases hi⟩⟩
theorem cw_drawX {id : Nat} {R : Heap} (hX : SelL L X R) (hm : P.follows .mixedOrders = true) (hd : l.all (dstOk G.m) = true) (h : AX P G l Q X [] D e L) : CW P G (.region id l.toArray true) Q D e L :=
  ⟨fun a w ha hw => by
    refine wpIn_region_any hm ?_
    refine wpX_any (I := fun w => Tr G.w0 G.A0 w X) _ _ _ _ ?_
    have := h.out hd a { w with drawn := w.drawn + 1 } ha (hw.same rfl rfl rfl rfl)
    simpa [lst] using this⟩
end
end Go.Proofs.Ytomaldjedncjoaa.E
