/-
The walk's second part: regions of operations, textual and drawn; a function's contract out of its body.
Conditions: none; these are general lemmas.
-/
import Derived.Test.YtomaldjedncjoaaE1
set_option linter.unusedVariables false
set_option linter.unusedSimpArgs false
namespace Go.Proofs.Ytomaldjedncjoaa.E
open Go

/-! ### A list of operations, at the level of activations -/
def wpL (F : Fence) (P : Program) (ops : Array Oper) (Q : Exit → Act → World → Prop) : List Oper → Act → World → Prop
  | [], a, w => Q .normal a w
  | o :: rest, a, w => if Region.wanted o (yielded ops a.tmps) then o.wpIn F 0 P a w (wpL F P ops Q rest) Q else wpL F P ops Q rest (a.put o.dst undef) w
theorem about_FW {r : Option Nat} {P : Program} {o : Oper} {w : World} {ρ : Operand → Value} : ∀ f, o.about P w ρ = some f → (FW r).fn f := fun _ _ => trivial
theorem wpOpsIn_wpL {r : Option Nat} {P : Program} {ops : Array Oper} {Q : Exit → Act → World → Prop} (l : List Oper) : ∀ k, (∀ j, l[j]? = ops[k + j]?) →
    ∀ a w, wpL (FW r) P ops Q l a w → wpOpsIn (FW r) 0 P ops Q (List.range' k l.length) a w := by
  induction l with
  | nil => intro k _ a w h; simpa [wpOpsIn, wpL] using h
  | cons o l ih =>
    intro k h a w hh
    have h0 : ops[k]? = some o := by simpa using (h 0).symm
    have ih' := ih (k + 1) (fun j => by have := h (j + 1); simpa [Nat.add_assoc, Nat.add_comm 1 j] using this)
    simp only [List.length_cons, List.range'_succ, wpOpsIn, h0]
    simp only [wpL] at hh
    split
    · rename_i hw; rw [if_pos hw] at hh; exact Oper.wpIn_mono ih' hh
    · rename_i hw; rw [if_neg hw] at hh; exact ⟨about_FW, ih' _ _ hh⟩
theorem wpIn_region_wpL {r : Option Nat} {P : Program} {id : Nat} {l : List Oper} {Q : Exit → Act → World → Prop} {a : Act} {w : World} (h : wpL (FW r) P l.toArray Q l a w) :
    (Code.region id l.toArray false).wpIn (FW r) 0 P Q a w :=
  wpIn_region (by
    have := wpOpsIn_wpL (r := r) (P := P) (ops := l.toArray) (Q := Q) l 0 (by simp) a w h
    rwa [List.range_eq_range', List.size_toArray])

/-! ### One operation, and a list of them -/
def dstOk (m : Nat) (o : Oper) : Bool := o.dst.all fun d => decide (d < m)
def yl (ops : Array Oper) (e : Env) (j : Nat) : Option Bool :=
  match (ops[j]?).bind (·.dst) with
  | some d => (match e d with | .bool b => some b | _ => none)
  | none => none
theorem Rp.yielded {m : Nat} {e : Env} {D : List Deferred} {a : Act} (h : Rp m e D a) (ops : Array Oper) (j : Nat) : yielded ops a.tmps j = yl ops e j := by
  unfold Go.yielded yl
  cases hd : (ops[j]?).bind (·.dst) with
  | none => rfl
  | some d =>
    simp only [Option.bind_some]
    have hv := h.val d
    cases ht : a.tmps[d]? with
    | none =>
      have : e d = undef := by rw [← hv]; simp [ht]
      simp [this, undef]
    | some v =>
      have : e d = v := by rw [← hv]; simp [ht]
      rw [this]
      cases v <;> rfl

structure OpK (P : Program) (G : Cx) (ops : Array Oper) (Q : Po) (o : Oper) (K : Ko) (D : List Deferred) (e : Env) (L : Heap) : Prop where
  out : dstOk G.m o = true → ∀ a w, Rp G.m e D a → Tr G.w0 G.A0 w L →
    if Region.wanted o (yielded ops a.tmps) then o.wpIn (FW G.r) 0 P a w (liftK G K) (lift G Q) else liftK G K (a.put o.dst undef) w
structure OW (P : Program) (G : Cx) (ops : Array Oper) (Q : Po) (l : List Oper) (D : List Deferred) (e : Env) (L : Heap) : Prop where
  out : l.all (dstOk G.m) = true → ∀ a w, Rp G.m e D a → Tr G.w0 G.A0 w L → wpL (FW G.r) P ops (lift G Q) l a w

section
variable {P : Program} {G : Cx} {ops : Array Oper} {Q : Po} {D : List Deferred} {e : Env} {L : Heap} {K : Ko}
theorem ow_nil (h : Q .normal D e L) : OW P G ops Q [] D e L := ⟨fun _ a w ha hw => ⟨trivial, D, e, L, ha, hw, h⟩⟩
theorem ow_cons {o : Oper} {rest : List Oper} (h : OpK P G ops Q o (OW P G ops Q rest) D e L) : OW P G ops Q (o :: rest) D e L :=
  ⟨fun hd a w ha hw => by
    simp only [List.all_cons, Bool.and_eq_true] at hd
    have h1 := h.out hd.1 a w ha hw
    have hk : ∀ a w, liftK G (OW P G ops Q rest) a w → wpL (FW G.r) P ops (lift G Q) rest a w := fun a w ⟨D, e, L, h1, h2, h3⟩ => h3.out hd.2 a w h1 h2
    simp only [wpL]
    split
    · rename_i hw'; rw [if_pos hw'] at h1; exact Oper.wpIn_mono hk h1
    · rename_i hw'; rw [if_neg hw'] at h1; exact hk _ _ h1⟩
theorem OW.heap {l : List Oper} {L' : Heap} (h : OW P G ops Q l D e L') (k : ∀ w, Tr G.w0 G.A0 w L → Tr G.w0 G.A0 w L') : OW P G ops Q l D e L :=
  ⟨fun hd a w ha hw => h.out hd a w ha (k w hw)⟩
theorem OW.know {l : List Oper} {p : Prop} (k : ∀ w, Tr G.w0 G.A0 w L → p) (h : p → OW P G ops Q l D e L) : OW P G ops Q l D e L :=
  ⟨fun hd a w ha hw => (h (k w hw)).out hd a w ha hw⟩
theorem cw_region {id : Nat} {l : List Oper} (hd : l.all (dstOk G.m) = true) (h : OW P G l.toArray Q l D e L) : CW P G (.region id l.toArray false) Q D e L :=
  ⟨fun a w ha hw => wpIn_region_wpL (h.out hd a w ha hw)⟩

/-- Whether a guarded operation comes up. -/
theorem opk_yes {dst : Option Tmp} {op : Op} {ty : TypeId} {pos : String} {af : Array Edge} {j d : Nat} {want : Bool} (hj : (ops[j]?).bind (·.dst) = some d) (hv : e d = .bool want)
    (h : OpK P G ops Q ⟨dst, op, ty, pos, af, none⟩ K D e L) : OpK P G ops Q ⟨dst, op, ty, pos, af, some (j, want)⟩ K D e L :=
  ⟨fun hd a w ha hw => by
    have h1 := h.out hd a w ha hw
    have hw1 : Region.wanted ⟨dst, op, ty, pos, af, some (j, want)⟩ (yielded ops a.tmps) = true := by simp [Region.wanted, ha.yielded, yl, hj, hv]
    rw [if_pos hw1]
    rw [if_pos (by simp [Region.wanted])] at h1
    exact h1⟩
theorem opk_no {dd : Nat} {op : Op} {ty : TypeId} {pos : String} {af : Array Edge} {j d : Nat} {want : Bool} (hj : (ops[j]?).bind (·.dst) = some d) (hv : e d = .bool (!want))
    (h : K D (upd e dd undef) L) : OpK P G ops Q ⟨some dd, op, ty, pos, af, some (j, want)⟩ K D e L :=
  ⟨fun hd a w ha hw => by
    have hw1 : Region.wanted ⟨some dd, op, ty, pos, af, some (j, want)⟩ (yielded ops a.tmps) = false := by simp [Region.wanted, ha.yielded, yl, hj, hv]
    rw [if_neg (by rw [hw1]; simp)]
    exact ⟨D, _, L, ha.put (some dd) _ hd, hw, h⟩⟩
theorem opk_no_undef {dd : Nat} {op : Op} {ty : TypeId} {pos : String} {af : Array Edge} {j d : Nat} {want : Bool} (hj : (ops[j]?).bind (·.dst) = some d) (hv : e d = undef)
    (h : K D (upd e dd undef) L) : OpK P G ops Q ⟨some dd, op, ty, pos, af, some (j, want)⟩ K D e L :=
  ⟨fun hd a w ha hw => by
    have hw1 : Region.wanted ⟨some dd, op, ty, pos, af, some (j, want)⟩ (yielded ops a.tmps) = false := by simp [Region.wanted, ha.yielded, yl, hj, hv, undef]
    rw [if_neg (by rw [hw1]; simp)]
    exact ⟨D, _, L, ha.put (some dd) _ hd, hw, h⟩⟩
/-- A Bool in a slot is decided: the slot is written anew. -/
theorem ow_split {l : List Oper} {d : Nat} {p : Prop} [Decidable p] (hv : e d = .bool (decide p)) (ht : p → OW P G ops Q l D (upd e d (.bool true)) L) (hf : ¬ p → OW P G ops Q l D (upd e d (.bool false)) L) :
    OW P G ops Q l D e L := by
  by_cases hp : p
  · rw [upd_self (e := e) (d := d) (v := .bool true) (by rw [hv, decide_eq_true hp])]; exact ht hp
  · rw [upd_self (e := e) (d := d) (v := .bool false) (by rw [hv, decide_eq_false hp])]; exact hf hp
theorem ow_split_t {l : List Oper} {d : Nat} {p : Prop} [Decidable p] (hv : e d = .bool (decide p)) (hp : p) (ht : OW P G ops Q l D (upd e d (.bool true)) L) : OW P G ops Q l D e L :=
  ow_split hv (fun _ => ht) (fun h => absurd hp h)
theorem ow_split_f {l : List Oper} {d : Nat} {p : Prop} [Decidable p] (hv : e d = .bool (decide p)) (hp : ¬ p) (ht : OW P G ops Q l D (upd e d (.bool false)) L) : OW P G ops Q l D e L :=
  ow_split hv (fun h => absurd h hp) (fun _ => ht)

/-! ### The general forms of an operation -/
theorem opk_gen {o : Oper} (hg : o.guard = none) (hd : ∀ c, o.op ≠ .defer c)
    (h : ∀ a w, Rp G.m e D a → Tr G.w0 G.A0 w L → (∀ v D e' L' w', Rp G.m e' D (a.put o.dst v) → Tr G.w0 G.A0 w' L' → K D e' L' → liftK G K (a.put o.dst v) w') → o.uponIn (FW G.r) 0 P a (liftK G K) (lift G Q) ((execOp (ev e) o).run P w)) : OpK P G ops Q o K D e L :=
  ⟨fun hd' a w ha hw => by
    rw [if_pos (by simp [Region.wanted, hg])]
    refine ⟨about_FW, ?_⟩
    rw [Oper.semAt_eq _ _ _ hd, ha.eval]
    exact h a w ha hw fun v D e' L' w' h1 h2 h3 => ⟨D, e', L', h1, h2, h3⟩⟩
/-- It yields a value, in whatever world. -/
theorem opk_val {o : Oper} {v : Value} (hg : o.guard = none) (hd : ∀ c, o.op ≠ .defer c) (hr : ∀ w, Tr G.w0 G.A0 w L → (execOp (ev e) o).run P w = .ok (.value v) w)
    (h : K D (updO e o.dst v) L) : OpK P G ops Q o K D e L :=
  ⟨fun hd' a w ha hw => by
    rw [if_pos (by simp [Region.wanted, hg])]
    refine ⟨about_FW, ?_⟩
    rw [Oper.semAt_eq _ _ _ hd, ha.eval, hr w hw, Oper.uponIn_value]
    exact ⟨D, _, L, ha.put _ _ hd', hw, h⟩⟩
/-- It takes the resources A and leaves others. -/
theorem opk_step {o : Oper} {A R : Heap} (hg : o.guard = none) (hd : ∀ c, o.op ≠ .defer c) (hp : L.Perm (A ++ R))
    (h : ∀ w, Holds w A → ∃ v w' L', (execOp (ev e) o).run P w = .ok (.value v) w' ∧ Tr w A w' L' ∧ K D (updO e o.dst v) (L' ++ R)) : OpK P G ops Q o K D e L :=
  ⟨fun hd' a w ha hw => by
    rw [if_pos (by simp [Region.wanted, hg])]
    refine ⟨about_FW, ?_⟩
    have hw1 := hw.perm hp
    have hA : Holds w A := ⟨fun x hx => hw1.ok x (List.mem_append_left _ hx), (List.pairwise_append.1 hw1.ap).1⟩
    obtain ⟨v, w', L', hr, ht, hk⟩ := h w hA
    rw [Oper.semAt_eq _ _ _ hd, ha.eval, hr, Oper.uponIn_value]
    exact ⟨D, _, _, ha.put _ _ hd', Tr.frame hw1 ht, hk⟩⟩
theorem opk_stepS {o : Oper} {A R : Heap} (hg : o.guard = none) (hd : ∀ c, o.op ≠ .defer c) (hp : L.Perm (A ++ R))
    (h : ∀ w, Holds w A → ∃ w' L', (execOp (ev e) o).run P w = .ok .skip w' ∧ Tr w A w' L' ∧ K D (updO e o.dst undef) (L' ++ R)) : OpK P G ops Q o K D e L :=
  ⟨fun hd' a w ha hw => by
    rw [if_pos (by simp [Region.wanted, hg])]
    refine ⟨about_FW, ?_⟩
    have hw1 := hw.perm hp
    have hA : Holds w A := ⟨fun x hx => hw1.ok x (List.mem_append_left _ hx), (List.pairwise_append.1 hw1.ap).1⟩
    obtain ⟨w', L', hr, ht, hk⟩ := h w hA
    rw [Oper.semAt_eq _ _ _ hd, ha.eval, hr, Oper.uponIn_skip]
    exact ⟨D, _, _, ha.put _ _ hd', Tr.frame hw1 ht, hk⟩⟩
/-- A call, by its contract. -/
theorem opk_call {o : Oper} {f : FuncId} {args : Array Value} {A R : Heap} {B : Value → Heap → Prop} (hg : o.guard = none) (hd : ∀ c, o.op ≠ .defer c)
    (hr : ∀ w, Tr G.w0 G.A0 w L → (execOp (ev e) o).run P w = .ok (.enter f args) w) (hp : L.Perm (A ++ R)) (hs : Spec P f args A B)
    (h : ∀ v L', B v L' → K D (updO e o.dst v) (L' ++ R)) : OpK P G ops Q o K D e L :=
  ⟨fun hd' a w ha hw => by
    rw [if_pos (by simp [Region.wanted, hg])]
    refine ⟨about_FW, ?_⟩
    have hw1 := hw.perm hp
    have hA : Holds w A := ⟨fun x hx => hw1.ok x (List.mem_append_left _ hx), (List.pairwise_append.1 hw1.ap).1⟩
    rw [Oper.semAt_eq _ _ _ hd, ha.eval, hr w hw, Oper.uponIn_enter]
    refine ⟨depth_FW _, callsIn_FW.2 ?_⟩
    refine (hs w hA).mono ?_
    rintro _ w' ⟨v, L', rfl, hb, ht⟩
    exact ⟨D, _, _, ha.put _ _ hd', Tr.frame hw1 ht, h v L' hb⟩⟩
end

/-! ### What a function hands back -/
def tupV : List Value → Value
  | [v] => v
  | vs => .tuple vs.toArray
/-- The values of the result variables, whatever the world in which L holds. -/
def RetV (P : Program) (fn : Func) (e : Env) (L : Heap) (v : Value) : Prop :=
  ∀ (m : Nat) (D : List Deferred) (a : Act) (w : World), Rp m e D a → (∀ x ∈ L, x.ok (hp w)) → (results fn a.tmps).run P w = .ok v w
theorem retV_tmp {P : Program} {fn : Func} {e : Env} {L : Heap} {t : Tmp} {v : Value} (h : fn.results = #[.tmp t]) (hv : e t = v) : RetV P fn e L v := by
  intro m D a w ha hw
  have := ha.val t
  simp only [results, h]
  simp only [List.mapM_toArray, List.mapM_cons, List.mapM_nil, Sem.run_bind, Sem.run_pure, Result.andThen_ok, Sem.run_map, pure_bind, bind_pure_comp, map_pure, this]
  simp [hv]
theorem results_tmps {P : Program} {fn : Func} {ts : List Tmp} (h : fn.results = (ts.map ResultVar.tmp).toArray) (tmps : Array Value) (w : World) :
    (results fn tmps).run P w = .ok (tupV (ts.map fun t => tmps.getD t undef)) w := by
  have key : ∀ (F : ResultVar → Sem Value), (∀ t, F (.tmp t) = pure (tmps.getD t undef)) → ∀ (ts : List Tmp), (List.mapM F (ts.map ResultVar.tmp)).run P w = .ok (ts.map fun t => tmps.getD t undef) w := by
    intro F hF ts
    induction ts with
    | nil => simp
    | cons t ts ih => simp only [List.map_cons, List.mapM_cons, hF, Sem.run_bind, Sem.run_pure, Result.andThen_ok, ih]
  unfold results
  rw [h]
  simp only [List.mapM_toArray, Sem.run_bind, Sem.run_map]
  rw [key _ (fun t => rfl)]
  simp only [Result.andThen_ok, Sem.run_pure]
  match ts with
  | [] => rfl
  | [t] => rfl
  | t :: u :: ts => rfl
theorem retV_tmps {P : Program} {fn : Func} {e : Env} {L : Heap} {v : Value} (ts : List Tmp) (h : fn.results = (ts.map ResultVar.tmp).toArray) (hv : tupV (ts.map e) = v) : RetV P fn e L v := by
  intro m D a w ha hw
  rw [results_tmps h, ← hv]
  have : (fun t => a.tmps.getD t undef) = e := by funext t; exact ha.val t
  rw [this]

def retQ (P : Program) (fn : Func) (A : Heap) (B : Value → Heap → Prop) : Po
  | .ret, D, e, L => D = [] ∧ ∃ v, RetV P fn e L v ∧ ∃ L', (∀ w0 w, Tr w0 A w L → Tr w0 A w L') ∧ B v L'
  | .normal, D, e, L => D = [] ∧ ∃ v, RetV P fn e L v ∧ ∃ L', (∀ w0 w, Tr w0 A w L → Tr w0 A w L') ∧ B v L'
  | _, _, _, _ => False
theorem retQ_ret {P : Program} {fn : Func} {A : Heap} {B : Value → Heap → Prop} {e : Env} {L L' : Heap} {v : Value} (hv : RetV P fn e L v) (hb : B v L') (h : ∀ w0 w, Tr w0 A w L → Tr w0 A w L') : retQ P fn A B .ret [] e L :=
  ⟨rfl, v, hv, L', h, hb⟩
theorem retQ_end {P : Program} {fn : Func} {A : Heap} {B : Value → Heap → Prop} {e : Env} {L L' : Heap} {v : Value} (hv : RetV P fn e L v) (hb : B v L') (h : ∀ w0 w, Tr w0 A w L → Tr w0 A w L') : retQ P fn A B .normal [] e L :=
  ⟨rfl, v, hv, L', h, hb⟩
theorem rp_enter {args : List Value} {m : Nat} (h : args.length ≤ m) : Rp m (envL args) [] { tmps := args.toArray ++ Array.replicate (m - args.toArray.size) undef, defers := [] } := by
  refine ⟨by simp; omega, rfl, fun t => ?_⟩
  simp only [envL, Array.getD_eq_getD_getElem?, Array.getElem?_append, List.size_toArray, List.getElem?_toArray]
  split
  · rfl
  · rename_i ht
    rw [List.getElem?_eq_none (by omega)]
    simp only [Array.getElem?_replicate]
    split <;> rfl
theorem spec_of {P : Program} {f : FuncId} {fn : Func} {c : Code} {args : List Value} {A : Heap} {B : Value → Heap → Prop} (hf : P.funcs[f]? = some fn) (hb : fn.body = some c) (hm : Nat.ble args.length fn.ntmps = true)
    (h : ∀ w0, Holds w0 A → CW P ⟨none, fn.ntmps, w0, A⟩ c (retQ P fn A B) [] (envL args) A) : Spec P f args.toArray A B := by
  intro w0 hw0
  refine callsIn_FW (r := none) (n := 0) |>.1 ?_
  refine callsIn_of_wp hf hb trivial ?_ rfl
  refine wpIn_mono ((h w0 hw0).out _ w0 (rp_enter (Nat.le_of_ble_eq_true hm)) (Tr.refl hw0)) ?_
  rintro x a w ⟨hx, D, e, L, ha, hw, hq⟩
  have fin : (D = [] ∧ ∃ v, RetV P fn e L v ∧ ∃ L', (∀ w0 w, Tr w0 A w L → Tr w0 A w L') ∧ B v L') → a.defers = [] ∧ ∃ v, (results fn a.tmps).run P w = .ok v w ∧ ∃ v' L, Ending.returned v = .returned v' ∧ B v' L ∧ Tr w0 A w L := by
    rintro ⟨rfl, v, hv, L', hl, hb'⟩
    exact ⟨ha.df, v, hv _ _ _ _ ha hw.ok, v, L', rfl, hb', hl _ _ hw⟩
  cases x with
  | ret => obtain ⟨h1, v, h2, h3⟩ := fin hq; exact ⟨h1, v, h2, h3⟩
  | normal => obtain ⟨h1, v, h2, h3⟩ := fin hq; exact ⟨h1, v, h2, h3⟩
  | exit i => exact hq.elim
  | goto l => exact hq.elim
  | panic c => exact hx.elim
  | outgrown => exact hx.elim
attribute [irreducible] retQ
end Go.Proofs.Ytomaldjedncjoaa.E
