/-
The walk's fourth part: small rules on what stands behind a piece of code, and on guards.
Conditions: none; these are general lemmas.
-/
import Derived.Test.YtomaldjedncjoaaE3
set_option linter.unusedVariables false
set_option linter.unusedSimpArgs false
namespace Go.Proofs.Ytomaldjedncjoaa.E
open Go
section
variable {P : Program} {G : Cx} {ops : Array Oper} {Q : Po} {D : List Deferred} {e : Env} {L : Heap} {K : Ko}
section
variable {dst : Option Tmp} {op : Op} {ty : TypeId} {pos : String} {af : Array Edge} {j d : Nat} {want : Bool} {p : Prop} [Decidable p]
theorem opk_g_s (hj : (ops[j]?).bind (·.dst) = some d) (hv : e d = .bool (decide p)) (ht : p → OpK P G ops Q ⟨dst, op, ty, pos, af, some (j, want)⟩ K D (upd e d (.bool true)) L) (hf : ¬ p → OpK P G ops Q ⟨dst, op, ty, pos, af, some (j, want)⟩ K D (upd e d (.bool false)) L) :
    OpK P G ops Q ⟨dst, op, ty, pos, af, some (j, want)⟩ K D e L := by
  by_cases hp : p
  · rw [upd_self (e := e) (d := d) (v := .bool true) (by rw [hv, decide_eq_true hp])]; exact ht hp
  · rw [upd_self (e := e) (d := d) (v := .bool false) (by rw [hv, decide_eq_false hp])]; exact hf hp
theorem opk_g_t (hj : (ops[j]?).bind (·.dst) = some d) (hv : e d = .bool (decide p)) (hp : p) (h : OpK P G ops Q ⟨dst, op, ty, pos, af, some (j, want)⟩ K D (upd e d (.bool true)) L) : OpK P G ops Q ⟨dst, op, ty, pos, af, some (j, want)⟩ K D e L :=
  opk_g_s hj hv (fun _ => h) (fun h => absurd hp h)
theorem opk_g_f (hj : (ops[j]?).bind (·.dst) = some d) (hv : e d = .bool (decide p)) (hp : ¬ p) (h : OpK P G ops Q ⟨dst, op, ty, pos, af, some (j, want)⟩ K D (upd e d (.bool false)) L) : OpK P G ops Q ⟨dst, op, ty, pos, af, some (j, want)⟩ K D e L :=
  opk_g_s hj hv (fun h => absurd h hp) (fun _ => h)
theorem opk_g_b {b : Bool} (hj : (ops[j]?).bind (·.dst) = some d) (hv : e d = .bool b) (ht : b = true → OpK P G ops Q ⟨dst, op, ty, pos, af, some (j, want)⟩ K D (upd e d (.bool true)) L) (hf : b = false → OpK P G ops Q ⟨dst, op, ty, pos, af, some (j, want)⟩ K D (upd e d (.bool false)) L) :
    OpK P G ops Q ⟨dst, op, ty, pos, af, some (j, want)⟩ K D e L := by
  cases b
  · rw [upd_self hv]; exact hf rfl
  · rw [upd_self hv]; exact ht rfl
theorem isG (h : OpK P G ops Q ⟨dst, op, ty, pos, af, some (j, want)⟩ K D e L) : OpK P G ops Q ⟨dst, op, ty, pos, af, some (j, want)⟩ K D e L := h
end
section
variable {dst : Option Tmp} {ty : TypeId} {pos : String} {af : Array Edge} {g : Option (Nat × Bool)}
theorem isStore {t : TypeId} {x y : Operand} (h : OpK P G ops Q ⟨dst, .store t x y, ty, pos, af, g⟩ K D e L) : OpK P G ops Q ⟨dst, .store t x y, ty, pos, af, g⟩ K D e L := h
theorem isCall {c : Call} (h : OpK P G ops Q ⟨dst, .call c, ty, pos, af, g⟩ K D e L) : OpK P G ops Q ⟨dst, .call c, ty, pos, af, g⟩ K D e L := h
variable {v : Value}
theorem rMove {x : Operand} (h : Rd P G ⟨dst, .move x, ty, pos, af, g⟩ v e L) : Rd P G ⟨dst, .move x, ty, pos, af, g⟩ v e L := h
theorem rAssign {x : Operand} (h : Rd P G ⟨dst, .assign x, ty, pos, af, g⟩ v e L) : Rd P G ⟨dst, .assign x, ty, pos, af, g⟩ v e L := h
theorem rLoad {t : TypeId} {x : Operand} (h : Rd P G ⟨dst, .load t x, ty, pos, af, g⟩ v e L) : Rd P G ⟨dst, .load t x, ty, pos, af, g⟩ v e L := h
theorem rBin {o : BinOp} {xt yt : TypeId} {x y : Operand} (h : Rd P G ⟨dst, .binOp o xt x y yt, ty, pos, af, g⟩ v e L) : Rd P G ⟨dst, .binOp o xt x y yt, ty, pos, af, g⟩ v e L := h
theorem rCall {c : Call} (h : Rd P G ⟨dst, .call c, ty, pos, af, g⟩ v e L) : Rd P G ⟨dst, .call c, ty, pos, af, g⟩ v e L := h
theorem rPick {x y z : Operand} (h : Rd P G ⟨dst, .pick x y z, ty, pos, af, g⟩ v e L) : Rd P G ⟨dst, .pick x y z, ty, pos, af, g⟩ v e L := h
theorem rIdx {t : TypeId} {x y : Operand} (h : Rd P G ⟨dst, .indexAddr t x y, ty, pos, af, g⟩ v e L) : Rd P G ⟨dst, .indexAddr t x y, ty, pos, af, g⟩ v e L := h
end
theorem isOpK {o : Oper} (h : OpK P G ops Q o K D e L) : OpK P G ops Q o K D e L := h
theorem isCW {c : Code} (h : CW P G c Q D e L) : CW P G c Q D e L := h
end
/-! What is wanted at the end is picked out; the rest is dropped. -/
theorem pickL {w0 w : World} {A0 L A R : Heap} (h : Tr w0 A0 w L) (k : SelL L A R) : Tr w0 A0 w A := by
  have := h.perm k.perm
  exact this.sub (List.sublist_append_left _ _)
theorem pick0 {w0 w : World} {A0 L : Heap} (h : Tr w0 A0 w L) : Tr w0 A0 w [] := pickL h (.nil _)
theorem pick1 {w0 w : World} {A0 L R1 : Heap} {x1 : Res} (h : Tr w0 A0 w L) (k1 : Sel L x1 R1) : Tr w0 A0 w [x1] := pickL h (.cons k1 (.nil _))
theorem pick2 {w0 w : World} {A0 L R1 R2 : Heap} {x1 x2 : Res} (h : Tr w0 A0 w L) (k1 : Sel L x1 R1) (k2 : Sel R1 x2 R2) : Tr w0 A0 w [x1, x2] := pickL h (.cons k1 (.cons k2 (.nil _)))
theorem pick3 {w0 w : World} {A0 L R1 R2 R3 : Heap} {x1 x2 x3 : Res} (h : Tr w0 A0 w L) (k1 : Sel L x1 R1) (k2 : Sel R1 x2 R2) (k3 : Sel R2 x3 R3) : Tr w0 A0 w [x1, x2, x3] := pickL h (.cons k1 (.cons k2 (.cons k3 (.nil _))))
theorem pick4 {w0 w : World} {A0 L R1 R2 R3 R4 : Heap} {x1 x2 x3 x4 : Res} (h : Tr w0 A0 w L) (k1 : Sel L x1 R1) (k2 : Sel R1 x2 R2) (k3 : Sel R2 x3 R3) (k4 : Sel R3 x4 R4) : Tr w0 A0 w [x1, x2, x3, x4] := pickL h (.cons k1 (.cons k2 (.cons k3 (.cons k4 (.nil _)))))
theorem pick5 {w0 w : World} {A0 L R1 R2 R3 R4 R5 : Heap} {x1 x2 x3 x4 x5 : Res} (h : Tr w0 A0 w L) (k1 : Sel L x1 R1) (k2 : Sel R1 x2 R2) (k3 : Sel R2 x3 R3) (k4 : Sel R3 x4 R4) (k5 : Sel R4 x5 R5) : Tr w0 A0 w [x1, x2, x3, x4, x5] := pickL h (.cons k1 (.cons k2 (.cons k3 (.cons k4 (.cons k5 (.nil _))))))
section
variable {P : Program} {G : Cx} {e : Env} {L : Heap} {d : Nat} {ty : TypeId} {pos : String} {af : Array Edge}
/-- A block's whole. -/
theorem rd_loadW {t n : Nat} {x : Operand} {b : Nat} {T : TypeId} {cs : List Value} {R : Heap} [Ag P t n] (hx : ev e x = .pointer (some ⟨b, 0, none⟩)) (hs : Sel L (blk b T cs) R) (hn : Nat.beq cs.length n = true) : Rd P G ⟨some d, .load t x, ty, pos, af, none⟩ ((.agg cs.toArray)) e L :=
  rd_loadA cs hx hs (by rw [List.drop_zero]; exact List.take_of_length_le (Nat.le_of_eq (Nat.eq_of_beq_eq_true hn))) (Nat.eq_of_beq_eq_true hn)
end
theorem dnot {p : Prop} (h : ¬ ¬ p) : p := Classical.not_not.1 h
end Go.Proofs.Ytomaldjedncjoaa.E
