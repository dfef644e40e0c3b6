/-
The walk's eighth part: rounds of a loop, what is only read of a row, predicates that are handed in.
Conditions: none; these are general lemmas.
-/
import Derived.Test.YtomaldjedncjoaaE7
set_option linter.unusedVariables false
set_option linter.unusedSimpArgs false
namespace Go.Proofs.Ytomaldjedncjoaa.E
open Go

/-! ### Rounds -/
@[reducible] def upds (e : Env) : List (Nat × Value) → Env
  | [] => e
  | p :: ps => upd (upds e ps) p.1 p.2
def Fx (e : Env) : List (Nat × Value) → Prop
  | [] => True
  | p :: ps => e p.1 = p.2 ∧ Fx e ps
theorem upds_self {e : Env} : ∀ {l : List (Nat × Value)}, Fx e l → e = upds e l
  | [], _ => rfl
  | p :: ps, h => by
    show e = upd (upds e ps) p.1 p.2
    rw [← upds_self h.2]
    exact upd_self h.1
section
variable {P : Program} {G : Cx} {Q : Po} {D : List Deferred} {e : Env} {L : Heap} {α : Type}
def lpQ (G : Cx) (S : α → List (Nat × Value)) (H : α → Heap) (V : α → Prop) (μ : α → Nat) (x : α) (D : List Deferred) : Ko :=
  fun D' e' L' => D' = D ∧ ∃ x', Fx e' (S x') ∧ V x' ∧ μ x' < μ x ∧ ∀ w, Tr G.w0 G.A0 w L' → Tr G.w0 G.A0 w (H x')
theorem lp_end {S : α → List (Nat × Value)} {H : α → Heap} {V : α → Prop} {μ : α → Nat} {x : α} (x' : α) (hf : Fx e (S x')) (hv : V x') (hm : μ x' < μ x) (hl : ∀ w, Tr G.w0 G.A0 w L → Tr G.w0 G.A0 w (H x')) : lpQ G S H V μ x D D e L :=
  ⟨rfl, x', hf, hv, hm, hl⟩
/-- A loop: slots, heap and facts, each by a ghost; the ghost's measure falls. -/
theorem cw_rounds {c : Code} (S : α → List (Nat × Value)) (H : α → Heap) (V : α → Prop) (μ : α → Nat) (x0 : α) (hf : Fx e (S x0)) (hv : V x0) (hl : ∀ w, Tr G.w0 G.A0 w L → Tr G.w0 G.A0 w (H x0))
    (round : ∀ x e', V x → CW P G c (thenQ (lpQ G S H V μ x D) Q) D (upds e' (S x)) (H x)) : CW P G (.loop c) Q D e L :=
  CW.heap (L' := H x0) (cw_loop (I := fun x D' e' L' => D' = D ∧ Fx e' (S x) ∧ V x ∧ ∃ L'', (∀ w, Tr G.w0 G.A0 w L' → Tr G.w0 G.A0 w L'') ∧ L'' = H x) μ x0 ⟨rfl, hf, hv, _, fun _ h => h, rfl⟩ (by
    rintro x D' e' L' ⟨rfl, hf, hv, _, hl, rfl⟩
    have h := round x e' hv
    rw [← upds_self hf] at h
    refine (h.heap hl).mono ?_
    intro z D2 e2 L2 h0 h1
    cases z with
    | normal =>
      unfold thenQ at h1 ⊢
      obtain ⟨rfl, x', a1, a2, a3, a4⟩ := h1
      exact ⟨x', ⟨rfl, a1, a2, _, a4, rfl⟩, a3⟩
    | exit i => unfold thenQ at h1 ⊢; exact h1
    | goto l => unfold thenQ at h1 ⊢; exact h1
    | ret => unfold thenQ at h1 ⊢; exact h1
    | panic c => exact h0.elim
    | outgrown => exact h0.elim)) hl
end
attribute [irreducible] lpQ

/-! ### What is only read -/
theorem ro_of_row {α : Type} {h : HF} {a : Option Nat} {T : TypeId} {cap : Nat} {τ : Ty α} {xs : List α} (hr : (row a T cap τ xs).ok h) : (ro (oad a) τ xs).ok h := by
  rcases hr with ⟨_, h0, _⟩ | ⟨g, cur, rfl, h1, h2, h3, h4, h5⟩
  · exact .inl h0
  · refine .inr ⟨g, 0, cur, T, (0, 0), rfl, h1, fun j v hj => ?_⟩
    rw [← h5, List.getElem?_take] at hj
    split at hj
    · simpa using hj
    · cases hj
/-- A contract that only reads y serves where one has x, which says y. -/
theorem Spec.reads {P : Program} {f : FuncId} {args : Array Value} {F : Heap} {x y : Res} {B : Value → Heap → Prop} (h : Spec P f args (F ++ [y]) B) (hok : ∀ h, x.ok h → y.ok h) (hW : ∀ b, ¬ y.W b) (hR : ∀ b, y.R b → x.W b ∨ x.R b) {B' : Value → Heap → Prop}
    (hB : ∀ v L, B v L → ∃ F', L = F' ++ [y] ∧ (∀ z ∈ F', ∀ b, z.R b → ¬ x.W b ∨ WS F b ∨ RS F b) ∧ B' v (F' ++ [x])) : Spec P f args (F ++ [x]) B' := by
  intro w hw
  have hap := List.pairwise_append.1 hw.ap
  have hFx : ∀ z ∈ F, apart z x := fun z hz => hap.2.2 z hz x (by simp)
  have hap' : (F ++ [y]).Pairwise apart := List.pairwise_append.2 ⟨hap.1, List.pairwise_singleton _ _, fun z hz u hu b => by
    obtain rfl := List.mem_singleton.1 hu
    refine ⟨fun hb => ⟨hW b, fun hyb => ?_⟩, fun hb => (hW b hb).elim⟩
    have := (hFx z hz b).1 hb
    rcases hR b hyb with h' | h'
    · exact this.1 h'
    · exact this.2 h'⟩
  have hx : x.ok (hp w) := hw.ok x (by simp)
  have hw' : Holds w (F ++ [y]) := ⟨fun z hz => by
    rcases List.mem_append.1 hz with hz | hz
    · exact hw.ok z (List.mem_append_left _ hz)
    · obtain rfl := List.mem_singleton.1 hz; exact hok _ hx, hap'⟩
  refine (h w hw').mono ?_
  rintro r w' ⟨v, L, rfl, hb, ht⟩
  obtain ⟨F', rfl, hF', hb'⟩ := hB v L hb
  have hnx : ∀ b, x.W b ∨ x.R b → ¬ WS (F ++ [y]) b := fun b hxb => by
    rintro ⟨z, hz, hzb⟩
    rcases List.mem_append.1 hz with hz | hz
    · have := (hFx z hz b).1 hzb
      rcases hxb with h' | h'
      · exact this.1 h'
      · exact this.2 h'
    · obtain rfl := List.mem_singleton.1 hz; exact hW b hzb
  have hlt : ∀ b, x.W b ∨ x.R b → b < w.heap.size := fun b hb => hp_lt (x.bnd _ hx b hb)
  have hxw : x.ok (hp w') := x.loc _ _ (fun b hb => ht.keep b (hlt b hb) (hnx b hb)) hx
  have hpa := List.pairwise_append.1 ht.ap
  have hWF : ∀ b, WS (F ++ [y]) b → WS F b := by
    rintro b ⟨z, hz, hzb⟩
    rcases List.mem_append.1 hz with hz | hz
    · exact ⟨z, hz, hzb⟩
    · obtain rfl := List.mem_singleton.1 hz; exact (hW b hzb).elim
  have hWF' : ∀ b, WS F b → WS (F ++ [x]) b := fun b ⟨z, hz, hzb⟩ => ⟨z, List.mem_append_left _ hz, hzb⟩
  have hRF' : ∀ b, RS (F ++ [y]) b → WS (F ++ [x]) b ∨ RS (F ++ [x]) b := by
    rintro b ⟨z, hz, hzb⟩
    rcases List.mem_append.1 hz with hz | hz
    · exact .inr ⟨z, List.mem_append_left _ hz, hzb⟩
    · obtain rfl := List.mem_singleton.1 hz
      rcases hR b hzb with h' | h'
      · exact .inl ⟨x, by simp, h'⟩
      · exact .inr ⟨x, by simp, h'⟩
  refine ⟨v, F' ++ [x], rfl, hb', ⟨fun z hz => ?_, List.pairwise_append.2 ⟨hpa.1, List.pairwise_singleton _ _, fun z hz u hu b => ?_⟩, ht.os, ht.tape, ht.out, ht.size, fun b h1 h2 => ht.keep b h1 (fun h3 => h2 (hWF' b (hWF b h3))), fun z hz b hb => ?_, fun z hz b hb => ?_⟩⟩
  · rcases List.mem_append.1 hz with hz | hz
    · exact ht.ok z (List.mem_append_left _ hz)
    · obtain rfl := List.mem_singleton.1 hz; exact hxw
  · obtain rfl := List.mem_singleton.1 hu
    refine ⟨fun hzb => ⟨fun hub => ?_, fun hub => ?_⟩, fun hub hzb => ?_⟩
    · rcases ht.subW z (List.mem_append_left _ hz) b hzb with h' | h'
      · exact hnx b (.inl hub) h'
      · have := hlt b (.inl hub); omega
    · rcases ht.subW z (List.mem_append_left _ hz) b hzb with h' | h'
      · exact hnx b (.inr hub) h'
      · have := hlt b (.inr hub); omega
    · rcases hF' z hz b hzb with h' | h' | ⟨z', h1, h2⟩
      · exact h' hub
      · exact hnx b (.inl hub) (by obtain ⟨z', h1, h2⟩ := h'; exact ⟨z', List.mem_append_left _ h1, h2⟩)
      · exact (hFx z' h1 b).2 hub h2
  · rcases List.mem_append.1 hz with hz | hz
    · rcases ht.subW z (List.mem_append_left _ hz) b hb with h' | h'
      · exact .inl (hWF' b (hWF b h'))
      · exact .inr h'
    · obtain rfl := List.mem_singleton.1 hz; exact .inl ⟨z, by simp, hb⟩
  · rcases List.mem_append.1 hz with hz | hz
    · rcases ht.subR z (List.mem_append_left _ hz) b hb with h' | h' | h'
      · exact .inl (hWF' b (hWF b h'))
      · rcases hRF' b h' with h'' | h''
        · exact .inl h''
        · exact .inr (.inl h'')
      · exact .inr (.inr h')
    · obtain rfl := List.mem_singleton.1 hz; exact .inr (.inl ⟨z, by simp, hb⟩)
/-- The same, where the heap comes back as it was. -/
theorem Spec.reads_same {P : Program} {f : FuncId} {args : Array Value} {F : Heap} {x y : Res} {p : Value → Prop} (h : Spec P f args (F ++ [y]) (fun v L => p v ∧ L = F ++ [y])) (hok : ∀ h, x.ok h → y.ok h) (hW : ∀ b, ¬ y.W b) (hR : ∀ b, y.R b → x.W b ∨ x.R b) :
    Spec P f args (F ++ [x]) (fun v L => p v ∧ L = F ++ [x]) :=
  h.reads hok hW hR fun v L ⟨h1, h2⟩ => ⟨F, h2, fun z hz b hb => .inr (.inr ⟨z, hz, hb⟩), h1, rfl⟩
theorem Spec.row_ro {P : Program} {f : FuncId} {args : Array Value} {F : Heap} {p : Value → Prop} {α : Type} {a : Option Nat} {T : TypeId} {cap : Nat} {τ : Ty α} {xs : List α} (h : Spec P f args (F ++ [ro (oad a) τ xs]) (fun v L => p v ∧ L = F ++ [ro (oad a) τ xs])) :
    Spec P f args (F ++ [row a T cap τ xs]) (fun v L => p v ∧ L = F ++ [row a T cap τ xs]) :=
  h.reads_same (fun h hr => ro_of_row hr) (fun b hb => hb) (fun b ⟨_, x, hx, hb⟩ => by
    cases a with
    | none => cases hx
    | some g => injection hx with hx; subst hx; exact .inl (by rw [← hb]; rfl))
/-- Beside a resource that it doesn't touch. -/
theorem Spec.beside {P : Program} {f : FuncId} {args : Array Value} {A : Heap} {p : Value → Prop} (x : Res) (h : Spec P f args A (fun v L => p v ∧ L = A)) : Spec P f args (x :: A) (fun v L => p v ∧ L = x :: A) := by
  intro w hw
  have hA : Holds w A := ⟨fun y hy => hw.ok y (by simp [hy]), (List.pairwise_cons.1 hw.ap).2⟩
  refine (h w hA).mono ?_
  rintro r w' ⟨v, L, rfl, ⟨hv, rfl⟩, ht⟩
  have h1 : Tr w (x :: L) w (L ++ [x]) := (Tr.refl hw).perm (List.perm_append_singleton x L).symm
  exact ⟨v, x :: L, rfl, ⟨hv, rfl⟩, (Tr.frame h1 ht).perm (List.perm_append_singleton x L)⟩
/-- Of two heaps, one behind the other, the first. -/
theorem selL_pre (F R : Heap) : SelL (F ++ R) F R := by
  induction F with
  | nil => exact .nil _
  | cons x F ih => exact .cons (.head _ _) ih
theorem sel_end (F : Heap) (x : Res) : Sel (F ++ [x]) x F := by
  induction F with
  | nil => exact .head _ _
  | cons y F ih => exact .tail y ih
theorem sel_app {R R' : Heap} {x : Res} (F : Heap) (h : Sel R x R') : Sel (F ++ R) x (F ++ R') := by
  induction F with
  | nil => exact h
  | cons y F ih => exact .tail y ih
theorem selL_mid (A F R : Heap) : SelL (A ++ (F ++ R)) F (A ++ R) := by
  induction F with
  | nil => exact .nil _
  | cons x F ih => exact .cons (sel_app A (.head _ _)) ih
theorem selL_tail (A F : Heap) : SelL (A ++ F) F A := by
  have := selL_mid A F []
  rwa [List.append_nil, List.append_nil] at this
theorem selL_app {L F R A R' : Heap} (h : SelL L F R) (k : SelL R A R') : SelL L (F ++ A) R' := by
  induction h with
  | nil L => exact k
  | cons h1 _ ih => exact .cons h1 (ih k)
theorem selL_all (F : Heap) : SelL F F [] := by
  have := selL_pre F []
  rwa [List.append_nil] at this
section
variable {P : Program} {G : Cx} {ops : Array Oper} {Q : Po} {D : List Deferred} {e : Env} {L : Heap} {K : Ko} {ty : TypeId} {pos : String} {af : Array Edge} {d : Nat}
theorem opk_callE {o : Oper} {f : FuncId} {args : Array Value} {A R : Heap} {B : Value → Heap → Prop} (hg : o.guard = none) (hd : ∀ c, o.op ≠ .defer c)
    (hr : ∀ w, Tr G.w0 G.A0 w L → (execOp (ev e) o).run P w = .ok (.enter f args) w) (hp : L.Perm (A ++ R)) (hs : Spec P f args A B)
    (h : ∀ v L', B v L' → K D (updO e o.dst v) (R ++ L')) : OpK P G ops Q o K D e L :=
  ⟨fun hd' a w ha hw => by
    rw [if_pos (by simp [Region.wanted, hg])]
    refine ⟨about_FW, ?_⟩
    have hw1 := hw.perm hp
    have hA : Holds w A := ⟨fun x hx => hw1.ok x (List.mem_append_left _ hx), (List.pairwise_append.1 hw1.ap).1⟩
    rw [Oper.semAt_eq _ _ _ hd, ha.eval, hr w hw, Oper.uponIn_enter]
    refine ⟨depth_FW _, callsIn_FW.2 ?_⟩
    refine (hs w hA).mono ?_
    rintro _ w' ⟨v, L', rfl, hb, ht⟩
    exact ⟨D, _, _, ha.put _ _ hd', (Tr.frame hw1 ht).perm List.perm_append_comm, h v L' hb⟩⟩
/-- Calls whose heap, not known one by one, stays behind. -/
theorem st_callE {f : FuncId} [Fnc P f] {args : List Operand} {at_ : Array TypeId} {av : List Value} {A R : Heap} {B : Value → Heap → Prop} (ha : args.map (ev e) = av) (hs : Spec P f av.toArray A B) (hp : SelL L A R)
    (h : ∀ v L', B v L' → K D (upd e d v) (R ++ L')) : OpK P G ops Q ⟨some d, .call ⟨.value (.func f), args.toArray, at_⟩, ty, pos, af, none⟩ K D e L :=
  opk_callE (A := A) (R := R) rfl (fun c => by simp) (fun w _ => by simp [execOp, resolve, ev, Deferred.ofValue, invoke, ha, run_callFunc]) hp.perm hs h
theorem st_callVE {f : FuncId} [Fnc P f] {x : Operand} {args : List Operand} {at_ : Array TypeId} {av caps : List Value} {A R : Heap} {B : Value → Heap → Prop} (hf : ev e x = .func (.func f) #[] caps.toArray) (ha : args.map (ev e) = av) (hs : Spec P f (av ++ caps).toArray A B) (hp : SelL L A R)
    (h : ∀ v L', B v L' → K D (upd e d v) (R ++ L')) : OpK P G ops Q ⟨some d, .call ⟨.value x, args.toArray, at_⟩, ty, pos, af, none⟩ K D e L :=
  opk_callE (A := A) (R := R) rfl (fun c => by simp) (fun w _ => by simp [execOp, resolve, hf, Deferred.ofValue, invoke, ha, run_callFunc]) hp.perm hs h
/-- A call that is given the whole heap. -/
theorem st_callA {f : FuncId} [Fnc P f] {args : List Operand} {at_ : Array TypeId} {av : List Value} {B : Value → Heap → Prop} (ha : args.map (ev e) = av) (hs : Spec P f av.toArray L B)
    (h : ∀ v L', B v L' → K D (upd e d v) L') : OpK P G ops Q ⟨some d, .call ⟨.value (.func f), args.toArray, at_⟩, ty, pos, af, none⟩ K D e L :=
  st_call ha hs (selL_all L) fun v L' hb => by rw [List.append_nil]; exact h v L' hb
theorem st_callVA {f : FuncId} [Fnc P f] {x : Operand} {args : List Operand} {at_ : Array TypeId} {av caps : List Value} {B : Value → Heap → Prop} (hf : ev e x = .func (.func f) #[] caps.toArray) (ha : args.map (ev e) = av) (hs : Spec P f (av ++ caps).toArray L B)
    (h : ∀ v L', B v L' → K D (upd e d v) L') : OpK P G ops Q ⟨some d, .call ⟨.value x, args.toArray, at_⟩, ty, pos, af, none⟩ K D e L :=
  st_callV hf ha hs (selL_all L) fun v L' hb => by rw [List.append_nil]; exact h v L' hb
end
end Go.Proofs.Ytomaldjedncjoaa.E
