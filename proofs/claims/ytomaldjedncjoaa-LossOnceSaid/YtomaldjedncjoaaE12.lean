/-
The walk's twelfth part: numbers turned from kind to kind, remainders; heaps within an operation; blocks that are only read from now on; what is only read, twice.
Conditions: none; these are general lemmas.
-/
import Derived.Test.YtomaldjedncjoaaE11
set_option linter.unusedVariables false
set_option linter.unusedSimpArgs false
namespace Go.Proofs.Ytomaldjedncjoaa.E
open Go
section
variable {P : Program} {G : Cx} {ops : Array Oper} {Q : Po} {D : List Deferred} {e : Env} {L : Heap} {K : Ko} {ty : TypeId} {pos : String} {af : Array Edge} {d : Nat}
theorem rd_conv {s t : TypeId} {k k' : IntKind} [hs : IntT P s k'] [ht : IntT P t k] {x : Operand} {n c : Int} (hx : ev e x = .int k' n) (hc : k.wrap n = c) : Rd P G ⟨some d, .convert s t x, ty, pos, af, none⟩ (.int k c) e L :=
  ⟨rfl, (fun c => by simp), fun w _ => by
    simp [execOp, hx, convert, underlying, hs.a, ht.a, Conv.intToInt, hc]⟩
theorem wrap_u64 (n : Int) : IntKind.u64.wrap n = n % 18446744073709551616 := by
  simp [IntKind.wrap, IntKind.bits, IntKind.signed]
theorem rd_convu {s t : TypeId} {k' : IntKind} [hs : IntT P s k'] [ht : IntT P t .u64] {x : Operand} {n : Int} (hx : ev e x = .int k' n) : Rd P G ⟨some d, .convert s t x, ty, pos, af, none⟩ (.int .u64 (n % 18446744073709551616)) e L :=
  rd_conv hx (wrap_u64 n)
theorem rd_remn {xt yt : TypeId} {x y : Operand} {k : IntKind} {a b : Int} (hx : ev e x = .int k a) (hy : ev e y = .int k b) (hb : 0 < b) (ha : 0 ≤ a) : Rd P G ⟨some d, .binOp .rem xt x y yt, ty, pos, af, none⟩ ((.int k (a % b))) e L :=
  rd_rem hx hy (by omega) (Int.tmod_eq_emod_of_nonneg ha)
theorem OpK.heap {o : Oper} {L' : Heap} (h : OpK P G ops Q o K D e L') (k : ∀ w, Tr G.w0 G.A0 w L → Tr G.w0 G.A0 w L') : OpK P G ops Q o K D e L :=
  ⟨fun hd a w ha hw => h.out hd a w ha (k w hw)⟩
theorem OpK.know {o : Oper} {p : Prop} (k : ∀ w, Tr G.w0 G.A0 w L → p) (h : p → OpK P G ops Q o K D e L) : OpK P G ops Q o K D e L :=
  ⟨fun hd a w ha hw => (h (k w hw)).out hd a w ha hw⟩
end
/-- A resource that is written is only read from now on. -/
theorem tr_only {w0 w : World} {A0 L R : Heap} {x y : Res} (hs : Sel L x R) (hok : ∀ h, x.ok h → y.ok h) (hyW : ∀ b, ¬ y.W b) (hyR : ∀ b, y.R b → x.W b ∨ x.R b) (h : Tr w0 A0 w L) : Tr w0 A0 w (y :: R) := by
  have h := h.perm hs.perm
  refine ⟨fun z hz => ?_, List.pairwise_cons.2 ⟨fun z hz b => ⟨fun hb => (hyW b hb).elim, fun hb hr => ?_⟩, (List.pairwise_cons.1 h.ap).2⟩, h.os, h.tape, h.out, h.size, h.keep, fun z hz b hb => ?_, fun z hz b hb => ?_⟩
  · rcases List.mem_cons.1 hz with rfl | hz
    · exact hok _ (h.ok _ (by simp))
    · exact h.ok z (by simp [hz])
  · have ha := (List.pairwise_cons.1 h.ap).1 z hz b
    rcases hyR b hr with h' | h'
    · exact (ha.1 h').1 hb
    · exact ha.2 hb h'
  · rcases List.mem_cons.1 hz with rfl | hz
    · exact (hyW b hb).elim
    · exact h.subW z (by simp [hz]) b hb
  · rcases List.mem_cons.1 hz with rfl | hz
    · rcases hyR b hb with h' | h'
      · rcases h.subW x (by simp) b h' with h'' | h''
        · exact .inl h''
        · exact .inr (.inr h'')
      · exact h.subR x (by simp) b h'
    · exact h.subR z (by simp [hz]) b hb
theorem ro_of_blk {α : Type} {h : HF} {b : Nat} {T : TypeId} {cs : List Value} {τ : Ty α} {xs : List α} (hc : cs = xs.flatMap τ.enc) (hr : (blk b T cs).ok h) : (ro (some ⟨b, 0, none⟩) τ xs).ok h := by
  subst hc
  exact .inr ⟨b, 0, _, T, (0, 0), rfl, hr, fun j v hj => by simpa using hj⟩
theorem tr_blk_ro {α : Type} {w0 w : World} {A0 L R : Heap} {b : Nat} {T : TypeId} {cs : List Value} (τ : Ty α) (xs : List α) (hc : cs = xs.flatMap τ.enc) (hs : Sel L (blk b T cs) R) (h : Tr w0 A0 w L) : Tr w0 A0 w (ro (some ⟨b, 0, none⟩) τ xs :: R) :=
  tr_only hs (fun _ => ro_of_blk hc) (fun b hb => hb) (fun b' hb => by
    obtain ⟨_, x, hx, hb⟩ := hb
    injection hx with hx; subst hx; exact .inl hb.symm) h
/-- What is only read, twice. -/
theorem tr_dup {w0 w : World} {A0 L R : Heap} {x : Res} (hs : Sel L x R) (hW : ∀ b, ¬ x.W b) (h : Tr w0 A0 w L) : Tr w0 A0 w (x :: L) := by
  have h1 := h.perm hs.perm
  have hap := List.pairwise_cons.1 h1.ap
  have h2 : Tr w0 A0 w (x :: ([x] ++ R)) := ⟨fun z hz => by
    rcases List.mem_cons.1 hz with rfl | hz
    · exact h1.ok z (by simp)
    · exact h1.ok z hz, List.pairwise_cons.2 ⟨fun z hz b => by
      rcases List.mem_append.1 hz with hz | hz
      · obtain rfl := List.mem_singleton.1 hz; exact ⟨fun hb => (hW b hb).elim, fun hb => (hW b hb).elim⟩
      · exact hap.1 z hz b, h1.ap⟩, h1.os, h1.tape, h1.out, h1.size, h1.keep, fun z hz b hb => by
      rcases List.mem_cons.1 hz with rfl | hz
      · exact (hW b hb).elim
      · exact h1.subW z hz b hb, fun z hz b hb => by
      rcases List.mem_cons.1 hz with rfl | hz
      · exact h1.subR z (by simp) b hb
      · exact h1.subR z hz b hb⟩
  exact h2.perm (List.Perm.cons _ hs.perm.symm)
theorem ro_noW {α : Type} (ad : Option Addr) (τ : Ty α) (xs : List α) : ∀ b, ¬ (ro ad τ xs).W b := fun _ h => h
/-- A member of a heap can be picked. -/
theorem sel_mem : ∀ {L : Heap} {x : Res}, x ∈ L → ∃ R, Sel L x R
  | y :: L, x, h => by
    rcases List.mem_cons.1 h with rfl | h
    · exact ⟨_, .head _ _⟩
    · obtain ⟨R, hR⟩ := sel_mem h; exact ⟨_, .tail y hR⟩
theorem tr_copy {w0 w : World} {A0 L : Heap} {x : Res} (hx : x ∈ L) (hW : ∀ b, ¬ x.W b) (h : Tr w0 A0 w L) : Tr w0 A0 w (x :: L) := by
  obtain ⟨R, hR⟩ := sel_mem hx
  exact tr_dup hR hW h
end Go.Proofs.Ytomaldjedncjoaa.E
