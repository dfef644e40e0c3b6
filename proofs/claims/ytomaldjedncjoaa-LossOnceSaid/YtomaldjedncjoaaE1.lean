/-
A small symbolic walk over the kit's fenced calculus, its first part: slots as a chain of updates, memory as a list of resources with disjoint footprints, and the rules on code.
Conditions: none; these are general lemmas.
-/
import Derived.OrdersIn
import Derived.RangeFuncLeaves
import Derived.Laws.Sem
import Derived.Laws.World
import Derived.Laws.Small
import Derived.KernelRfl
set_option linter.unusedVariables false
set_option linter.unusedSimpArgs false
namespace Go.Proofs.Ytomaldjedncjoaa.E
open Go

/-! ### The fence: every function, any depth; in a round or not -/
def FW (r : Option Nat) : Fence := { fn := fun _ => True, depth := none, alive := false, round := r }
theorem FW_none : FW none = Fence.wide := rfl
theorem room_FW (r : Option Nat) (n : Nat) : (FW r).room n := fun _ h => by simp [FW] at h
theorem depth_FW (r : Option Nat) {p : Prop} : (FW r).depth.isSome = true → p := fun h => by simp [FW] at h
theorem callsIn_FW {r : Option Nat} {n : Nat} {P : Program} {f : FuncId} {args : Array Value} {w : World} {R : Ending → World → Prop} : CallsIn (FW r) n P f args w R ↔ Calls P f args w R := by
  rw [← callsIn_wide (n := n)]
  exact Iff.rfl

/-! ### Slots -/
abbrev Env := Nat → Value
def upd (e : Env) (d : Nat) (v : Value) : Env := fun t => bif Nat.beq t d then v else e t
theorem upd_same (e : Env) (d : Nat) (v : Value) : upd e d v d = v := by simp [upd]
theorem upd_ne (e : Env) {d t : Nat} (v : Value) (h : t ≠ d) : upd e d v t = e t := by
  have : Nat.beq t d = false := by rw [← Bool.not_eq_true, Nat.beq_eq]; exact h
  simp [upd, this]
theorem upd_self {e : Env} {d : Nat} {v : Value} (h : e d = v) : e = upd e d v := by
  funext t
  by_cases ht : t = d
  · subst ht; rw [upd_same, h]
  · rw [upd_ne _ _ ht]
theorem upd_comm (e : Env) {d d' : Nat} (v v' : Value) (h : d ≠ d') : upd (upd e d v) d' v' = upd (upd e d' v') d v := by
  funext t
  by_cases h1 : t = d
  · subst h1; rw [upd_ne _ _ h, upd_same, upd_same]
  · by_cases h2 : t = d'
    · subst h2; rw [upd_same, upd_ne _ _ h1, upd_same]
    · rw [upd_ne _ _ h2, upd_ne _ _ h1, upd_ne _ _ h1, upd_ne _ _ h2]
def updO (e : Env) (d : Option Nat) (v : Value) : Env := match d with | some d => upd e d v | none => e
def ev (e : Env) : Operand → Value
  | .tmp t => e t
  | .const v => v
  | .global g => .pointer (some ⟨g, 0, none⟩)
  | .func f => .func (.func f) #[] #[]
def envL (l : List Value) : Env := fun t => (l[t]?).getD undef

structure Rp (m : Nat) (e : Env) (D : List Deferred) (a : Act) : Prop where
  sz : a.tmps.size = m
  df : a.defers = D
  val : ∀ t, a.tmps.getD t undef = e t
theorem Rp.eval {m : Nat} {e : Env} {D : List Deferred} {a : Act} (h : Rp m e D a) : a.eval = ev e := by
  funext x
  cases x with
  | tmp t => exact h.val t
  | const v => rfl
  | global g => rfl
  | func f => rfl
theorem Rp.put {m : Nat} {e : Env} {D : List Deferred} {a : Act} (h : Rp m e D a) (d : Option Nat) (v : Value) (hd : d.all (fun d => decide (d < m)) = true) : Rp m (updO e d v) D (a.put d v) := by
  cases d with
  | none => exact h
  | some d =>
    have hlt : d < a.tmps.size := by rw [h.sz]; simpa using hd
    refine ⟨by simp [Act.put, h.sz], h.df, fun t => ?_⟩
    by_cases ht : t = d
    · subst ht; simp [Act.put, updO, upd_same, hlt]
    · have := h.val t
      simp only [updO, upd_ne _ _ ht, ← this]
      simp [Act.put, Array.getElem?_setIfInBounds_ne (Ne.symm ht)]

/-! ### Resources -/
abbrev HF := Nat → Option Obj
def hp (w : World) : HF := fun b => w.heap[b]?
structure Res where
  W : Nat → Prop
  R : Nat → Prop
  ok : HF → Prop
  loc : ∀ h h' : HF, (∀ b, W b ∨ R b → h' b = h b) → ok h → ok h'
  bnd : ∀ h : HF, ok h → ∀ b, W b ∨ R b → h b ≠ none
abbrev Heap := List Res
def apart (x y : Res) : Prop := ∀ b, (x.W b → ¬ y.W b ∧ ¬ y.R b) ∧ (y.W b → ¬ x.R b)
theorem apart.symm {x y : Res} (h : apart x y) : apart y x := fun b => ⟨fun hy => ⟨fun hx => ((h b).1 hx).1 hy, (h b).2 hy⟩, fun hx => ((h b).1 hx).2⟩
structure Holds (w : World) (L : Heap) : Prop where
  ok : ∀ x ∈ L, x.ok (hp w)
  ap : L.Pairwise apart
def WS (A : Heap) (b : Nat) : Prop := ∃ x ∈ A, x.W b
def RS (A : Heap) (b : Nat) : Prop := ∃ x ∈ A, x.R b
theorem hp_lt {w : World} {b : Nat} (h : hp w b ≠ none) : b < w.heap.size := by
  rcases Nat.lt_or_ge b w.heap.size with h' | h'
  · exact h'
  · exact absurd (Array.getElem?_eq_none h') h
theorem hp_ge {w : World} {b : Nat} (h : w.heap.size ≤ b) : hp w b = none := Array.getElem?_eq_none h

/-- From the world w0, where A0 held, to the world w, where L holds: what A0 doesn't let be written is as it was. -/
structure Tr (w0 : World) (A0 : Heap) (w : World) (L : Heap) : Prop where
  ok : ∀ x ∈ L, x.ok (hp w)
  ap : L.Pairwise apart
  os : w.os = w0.os
  tape : w.tape = w0.tape
  out : w.output = w0.output
  size : w0.heap.size ≤ w.heap.size
  keep : ∀ b, b < w0.heap.size → ¬ WS A0 b → hp w b = hp w0 b
  subW : ∀ x ∈ L, ∀ b, x.W b → WS A0 b ∨ w0.heap.size ≤ b
  subR : ∀ x ∈ L, ∀ b, x.R b → WS A0 b ∨ RS A0 b ∨ w0.heap.size ≤ b
theorem Tr.refl {w : World} {A : Heap} (h : Holds w A) : Tr w A w A :=
  ⟨h.ok, h.ap, rfl, rfl, rfl, Nat.le_refl _, fun _ _ _ => rfl, fun x hx b hb => .inl ⟨x, hx, hb⟩, fun x hx b hb => .inr (.inl ⟨x, hx, hb⟩)⟩
theorem Tr.holds {w0 w : World} {A L : Heap} (h : Tr w0 A w L) : Holds w L := ⟨h.ok, h.ap⟩
theorem pw_perm {l l' : Heap} (h : l.Perm l') (hp : l.Pairwise apart) : l'.Pairwise apart := (h.pairwise_iff (fun h => apart.symm h)).1 hp
theorem Tr.perm {w0 w : World} {A L L' : Heap} (h : Tr w0 A w L) (p : L.Perm L') : Tr w0 A w L' :=
  ⟨fun x hx => h.ok x (p.mem_iff.2 hx), pw_perm p h.ap, h.os, h.tape, h.out, h.size, h.keep, fun x hx => h.subW x (p.mem_iff.2 hx), fun x hx => h.subR x (p.mem_iff.2 hx)⟩
/-- Resources that are not wanted any more are dropped. -/
theorem Tr.sub {w0 w : World} {A L L' : Heap} (h : Tr w0 A w L) (p : L'.Sublist L) : Tr w0 A w L' :=
  ⟨fun x hx => h.ok x (p.subset hx), h.ap.sublist p, h.os, h.tape, h.out, h.size, h.keep, fun x hx => h.subW x (p.subset hx), fun x hx => h.subR x (p.subset hx)⟩
theorem Tr.lt {w0 w : World} {A L : Heap} (h : Tr w0 A w L) {x : Res} (hx : x ∈ L) {b : Nat} (hb : x.W b ∨ x.R b) : b < w.heap.size := hp_lt (x.bnd _ (h.ok x hx) b hb)
theorem Tr.same {w0 w w' : World} {A L : Heap} (h : Tr w0 A w L) (hh : w'.heap = w.heap) (ho : w'.os = w.os) (ht : w'.tape = w.tape) (hu : w'.output = w.output) : Tr w0 A w' L := by
  have hhp : hp w' = hp w := by funext b; simp [hp, hh]
  exact ⟨fun x hx => hhp ▸ h.ok x hx, h.ap, ho.trans h.os, ht.trans h.tape, hu.trans h.out, by rw [hh]; exact h.size, fun b h1 h2 => by rw [hhp]; exact h.keep b h1 h2, h.subW, h.subR⟩
/-- The frame rule: a step that had A and left L', within a world that had A and R beside it. -/
theorem Tr.frame {w0 w w' : World} {A0 A R L' : Heap} (h : Tr w0 A0 w (A ++ R)) (k : Tr w A w' L') : Tr w0 A0 w' (L' ++ R) := by
  have hap := List.pairwise_append.1 h.ap
  have hR : ∀ y ∈ R, ∀ b, y.W b ∨ y.R b → hp w' b = hp w b := fun y hy b hb => by
    refine k.keep b (h.lt (List.mem_append_right _ hy) hb) ?_
    rintro ⟨x, hx, hxb⟩
    have := (hap.2.2 x hx y hy b).1 hxb
    rcases hb with hb | hb
    · exact this.1 hb
    · exact this.2 hb
  refine ⟨fun x hx => ?_, List.pairwise_append.2 ⟨k.ap, hap.2.1, fun x hx y hy b => ⟨fun hxb => ?_, fun hyb hxb => ?_⟩⟩, k.os.trans h.os, k.tape.trans h.tape, k.out.trans h.out, Nat.le_trans h.size k.size, fun b h1 h2 => ?_, fun x hx b hb => ?_, fun x hx b hb => ?_⟩
  · rcases List.mem_append.1 hx with hx | hx
    · exact k.ok x hx
    · exact x.loc _ _ (hR x hx) (h.ok x (List.mem_append_right _ hx))
  · rcases k.subW x hx b hxb with ⟨z, hz, hzb⟩ | hge
    · exact (hap.2.2 z hz y hy b).1 hzb
    · exact ⟨fun hb => by have := h.lt (List.mem_append_right A hy) (.inl hb); omega, fun hb => by have := h.lt (List.mem_append_right A hy) (.inr hb); omega⟩
  · rcases k.subR x hx b hxb with ⟨z, hz, hzb⟩ | ⟨z, hz, hzb⟩ | hge
    · exact ((hap.2.2 z hz y hy b).1 hzb).1 hyb
    · exact (hap.2.2 z hz y hy b).2 hyb hzb
    · have := h.lt (List.mem_append_right A hy) (.inl hyb); omega
  · have hlt : b < w.heap.size := Nat.lt_of_lt_of_le h1 h.size
    rw [← h.keep b h1 h2]
    refine k.keep b hlt ?_
    rintro ⟨x, hx, hxb⟩
    rcases h.subW x (List.mem_append_left _ hx) b hxb with h' | h'
    · exact h2 h'
    · omega
  · rcases List.mem_append.1 hx with hx | hx
    · rcases k.subW x hx b hb with ⟨z, hz, hzb⟩ | hge
      · exact h.subW z (List.mem_append_left _ hz) b hzb
      · have := h.size; exact .inr (by omega)
    · exact h.subW x (List.mem_append_right _ hx) b hb
  · rcases List.mem_append.1 hx with hx | hx
    · rcases k.subR x hx b hb with ⟨z, hz, hzb⟩ | ⟨z, hz, hzb⟩ | hge
      · rcases h.subW z (List.mem_append_left _ hz) b hzb with h' | h'
        · exact .inl h'
        · exact .inr (.inr h')
      · exact h.subR z (List.mem_append_left _ hz) b hzb
      · have := h.size; exact .inr (.inr (by omega))
    · exact h.subR x (List.mem_append_right _ hx) b hb
theorem Tr.trans {w0 w w' : World} {A0 A L' : Heap} (h : Tr w0 A0 w A) (k : Tr w A w' L') : Tr w0 A0 w' L' := by
  have := Tr.frame (R := []) (by simpa using h) k
  simpa using this

/-! ### Contracts -/
def Spec (P : Program) (f : FuncId) (args : Array Value) (A : Heap) (B : Value → Heap → Prop) : Prop :=
  ∀ w, Holds w A → Calls P f args w fun r w' => ∃ v L, r = .returned v ∧ B v L ∧ Tr w A w' L
theorem Spec.mono {P : Program} {f : FuncId} {args : Array Value} {A : Heap} {B B' : Value → Heap → Prop} (h : Spec P f args A B) (k : ∀ v L, B v L → B' v L) : Spec P f args A B' :=
  fun w hw => (h w hw).mono fun r w' ⟨v, L, e, hb, ht⟩ => ⟨v, L, e, k v L hb, ht⟩

/-! ### The judgements -/
structure Cx where
  r : Option Nat
  m : Nat
  w0 : World
  A0 : Heap
abbrev Po := Exit → List Deferred → Env → Heap → Prop
abbrev Ko := List Deferred → Env → Heap → Prop
def okExit : Exit → Prop
  | .panic _ => False
  | .outgrown => False
  | _ => True
def lift (G : Cx) (Q : Po) (x : Exit) (a : Act) (w : World) : Prop := okExit x ∧ ∃ D e L, Rp G.m e D a ∧ Tr G.w0 G.A0 w L ∧ Q x D e L
def liftK (G : Cx) (K : Ko) (a : Act) (w : World) : Prop := ∃ D e L, Rp G.m e D a ∧ Tr G.w0 G.A0 w L ∧ K D e L
structure CW (P : Program) (G : Cx) (c : Code) (Q : Po) (D : List Deferred) (e : Env) (L : Heap) : Prop where
  out : ∀ a w, Rp G.m e D a → Tr G.w0 G.A0 w L → c.wpIn (FW G.r) 0 P (lift G Q) a w

def thenQ (K : Ko) (Q : Po) : Po
  | .normal, D, e, L => K D e L
  | x, D, e, L => Q x D e L
def blkQ (id : Nat) (Q : Po) : Po
  | .exit i, D, e, L => if i = id then Q .normal D e L else Q (.exit i) D e L
  | x, D, e, L => Q x D e L

section
variable {P : Program} {G : Cx} {Q : Po} {D : List Deferred} {e : Env} {L : Heap}

theorem CW.mono {c : Code} {Q' : Po} (h : CW P G c Q D e L) (k : ∀ x D e L, okExit x → Q x D e L → Q' x D e L) : CW P G c Q' D e L :=
  ⟨fun a w ha hw => wpIn_mono (h.out a w ha hw) fun x a w ⟨h0, D, e, L, h1, h2, h3⟩ => ⟨h0, D, e, L, h1, h2, k x D e L h0 h3⟩⟩
/-- The heap may be re-arranged, and resources dropped. -/
theorem CW.heap {c : Code} {L' : Heap} (h : CW P G c Q D e L') (k : ∀ w, Tr G.w0 G.A0 w L → Tr G.w0 G.A0 w L') : CW P G c Q D e L :=
  ⟨fun a w ha hw => h.out a w ha (k w hw)⟩
/-- What holds of every world that has these resources may be used. -/
theorem CW.know {c : Code} {p : Prop} (k : ∀ w, Tr G.w0 G.A0 w L → p) (h : p → CW P G c Q D e L) : CW P G c Q D e L :=
  ⟨fun a w ha hw => (h (k w hw)).out a w ha hw⟩
theorem CW.exi {c : Code} {α : Type} {LL : α → Heap} (k : ∀ w, Tr G.w0 G.A0 w L → ∃ x, Tr G.w0 G.A0 w (LL x)) (h : ∀ x, CW P G c Q D e (LL x)) : CW P G c Q D e L :=
  ⟨fun a w ha hw => let ⟨x, hx⟩ := k w hw; (h x).out a w ha hx⟩

theorem cw_skip (h : Q .normal D e L) : CW P G .skip Q D e L := ⟨fun a w ha hw => wpIn_skip ⟨trivial, D, e, L, ha, hw, h⟩⟩
theorem cw_label {l : Nat} (h : Q .normal D e L) : CW P G (.label l) Q D e L := ⟨fun a w ha hw => wpIn_label ⟨trivial, D, e, L, ha, hw, h⟩⟩
theorem cw_exit {i : Nat} (h : Q (.exit i) D e L) : CW P G (.exit i) Q D e L := ⟨fun a w ha hw => wpIn_exit ⟨trivial, D, e, L, ha, hw, h⟩⟩
theorem cw_ret (h : Q .ret D e L) : CW P G .ret Q D e L := ⟨fun a w ha hw => wpIn_ret ⟨trivial, D, e, L, ha, hw, h⟩⟩
theorem cw_seq {x y : Code} (h : CW P G x (thenQ (CW P G y Q) Q) D e L) : CW P G (.seq x y) Q D e L :=
  ⟨fun a w ha hw => wpIn_seq (wpIn_mono (h.out a w ha hw) fun z a w ⟨h0, D, e, L, h1, h2, h3⟩ => by
    cases z with
    | normal => exact h3.out a w h1 h2
    | panic c => exact h0.elim
    | outgrown => exact h0.elim
    | _ => exact ⟨h0, D, e, L, h1, h2, h3⟩)⟩
/-- A cut: what stands between is said by hand. -/
theorem cw_cut {x y : Code} (K : Ko) (h : CW P G x (thenQ K Q) D e L) (k : ∀ D e L, K D e L → CW P G y Q D e L) : CW P G (.seq x y) Q D e L :=
  cw_seq (h.mono fun z D e L h0 h3 => by cases z <;> first | exact k D e L h3 | exact h3)
theorem cw_cond {c : Operand} {x y : Code} {b : Bool} (hc : ev e c = .bool b) (h : CW P G (if b then x else y) Q D e L) : CW P G (.cond c x y) Q D e L :=
  ⟨fun a w ha hw => wpIn_cond (t := b) (by rw [ha.eval]; exact hc) (h.out a w ha hw)⟩
theorem cw_cond_t {c : Operand} {x y : Code} {p : Prop} [Decidable p] (hc : ev e c = .bool (decide p)) (hp : p) (h : CW P G x Q D e L) : CW P G (.cond c x y) Q D e L :=
  cw_cond hc (by rw [decide_eq_true hp]; exact h)
theorem cw_cond_f {c : Operand} {x y : Code} {p : Prop} [Decidable p] (hc : ev e c = .bool (decide p)) (hp : ¬ p) (h : CW P G y Q D e L) : CW P G (.cond c x y) Q D e L :=
  cw_cond hc (by rw [decide_eq_false hp]; exact h)
theorem cw_cond_s {c : Operand} {x y : Code} {p : Prop} [Decidable p] (hc : ev e c = .bool (decide p)) (ht : p → CW P G x Q D e L) (hf : ¬ p → CW P G y Q D e L) : CW P G (.cond c x y) Q D e L := by
  by_cases hp : p
  · exact cw_cond_t hc hp (ht hp)
  · exact cw_cond_f hc hp (hf hp)
theorem cw_cond_true {c : Operand} {x y : Code} (hc : ev e c = .bool true) (h : CW P G x Q D e L) : CW P G (.cond c x y) Q D e L := cw_cond hc h
theorem cw_cond_false {c : Operand} {x y : Code} (hc : ev e c = .bool false) (h : CW P G y Q D e L) : CW P G (.cond c x y) Q D e L := cw_cond hc h
theorem cw_cond_b {c : Operand} {x y : Code} {b : Bool} (hc : ev e c = .bool b) (ht : b = true → CW P G x Q D e L) (hf : b = false → CW P G y Q D e L) : CW P G (.cond c x y) Q D e L := by
  cases b
  · exact cw_cond hc (hf rfl)
  · exact cw_cond hc (ht rfl)
theorem cw_block {id : Nat} {c : Code} (h : CW P G c (blkQ id Q) D e L) : CW P G (.block id c) Q D e L :=
  ⟨fun a w ha hw => wpIn_block (wpIn_mono (h.out a w ha hw) fun z a w ⟨h0, D, e, L, h1, h2, h3⟩ => by
    cases z with
    | exit i =>
      simp only [blkQ] at h3
      simp only [Exit.inBlock]
      split
      · rename_i hi; rw [if_pos hi] at h3; exact ⟨trivial, D, e, L, h1, h2, h3⟩
      · rename_i hi; rw [if_neg hi] at h3; exact ⟨trivial, D, e, L, h1, h2, h3⟩
    | panic c => exact h0.elim
    | outgrown => exact h0.elim
    | _ => exact ⟨h0, D, e, L, h1, h2, h3⟩)⟩
/-- A loop: an invariant over a ghost, and a measure of the ghost. -/
theorem cw_loop {c : Code} {α : Type} (I : α → Ko) (μ : α → Nat) (x0 : α) (h0 : I x0 D e L)
    (round : ∀ x D e L, I x D e L → CW P G c (thenQ (fun D' e' L' => ∃ x', I x' D' e' L' ∧ μ x' < μ x) Q) D e L) : CW P G (.loop c) Q D e L :=
  ⟨fun a w ha hw b k cs hro hb hr => by
    have key : ∀ n x D e L a w, μ x = n → I x D e L → Rp G.m e D a → Tr G.w0 G.A0 w L →
        ∃ z a' w', lift G Q z a' w' ∧ ArrivesIn (Machine.fenced P (FW G.r)) P (lone (b.atR a (.code c :: .inLoop c :: k)) cs w) b k cs z a' w' := by
      intro n
      induction n using Nat.strongRecOn with
      | _ n ih =>
        intro x D e L a w hx hI ha hw
        obtain ⟨z, a₁, w₁, ⟨hz, D1, e1, L1, h1, h2, h3⟩, harr⟩ := (round x D e L hI).out a w ha hw b (.inLoop c :: k) cs hro hb hr
        cases z with
        | normal =>
          obtain ⟨x', hI', hlt⟩ := h3
          obtain ⟨z₂, a₂, w₂, hq₂, harr₂⟩ := ih (μ x') (hx ▸ hlt) x' D1 e1 L1 a₁ w₁ rfl hI' h1 h2
          exact ⟨z₂, a₂, w₂, hq₂, .of_steps (StepsIn.trans harr (.one (fenced_calm hb hr rfl) stepR_inLoop)) harr₂⟩
        | exit id => exact ⟨_, a₁, w₁, ⟨hz, D1, e1, L1, h1, h2, h3⟩, .pass (x := .inLoop c) rfl (fun _ _ => .inl (by simp)) harr⟩
        | goto l => exact ⟨_, a₁, w₁, ⟨hz, D1, e1, L1, h1, h2, h3⟩, .pass (x := .inLoop c) rfl (fun _ _ => .inl (by simp)) harr⟩
        | ret => exact ⟨_, a₁, w₁, ⟨hz, D1, e1, L1, h1, h2, h3⟩, .pass (x := .inLoop c) rfl (fun _ _ => .inl (by simp)) harr⟩
        | panic ch => exact hz.elim
        | outgrown => exact hz.elim
    obtain ⟨z, a', w', hq, harr⟩ := key _ x0 D e L a w rfl h0 ha hw
    exact ⟨z, a', w', hq, .of_steps (.one (fenced_calm hb hr rfl) stepR_loop) harr⟩⟩
variable {K : Ko}
theorem tq_n (h : K D e L) : thenQ K Q .normal D e L := h
theorem tq_ret (h : Q .ret D e L) : thenQ K Q .ret D e L := h
theorem tq_exit {i : Nat} (h : Q (.exit i) D e L) : thenQ K Q (.exit i) D e L := h
theorem bq_n {id : Nat} (h : Q .normal D e L) : blkQ id Q .normal D e L := h
theorem bq_ret {id : Nat} (h : Q .ret D e L) : blkQ id Q .ret D e L := h
theorem bq_same {id : Nat} (h : Q .normal D e L) : blkQ id Q (.exit id) D e L := by simp only [blkQ, if_true]; exact h
theorem bq_ne {id i : Nat} (hn : Nat.beq i id = false) (h : Q (.exit i) D e L) : blkQ id Q (.exit i) D e L := by
  have : i ≠ id := fun h => by subst h; simp at hn
  simp only [blkQ, if_neg this]; exact h
end
attribute [irreducible] thenQ blkQ
end Go.Proofs.Ytomaldjedncjoaa.E
