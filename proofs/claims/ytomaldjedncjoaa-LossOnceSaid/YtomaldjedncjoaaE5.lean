/-
The walk's fifth part: rows of elements (a slice of the call's own), read-only rows, and what is done with slices.
Conditions: none; these are general lemmas.
-/
import Derived.Test.YtomaldjedncjoaaE4
import Derived.Maps.AppendAt
set_option linter.unusedVariables false
set_option linter.unusedSimpArgs false
namespace Go.Proofs.Ytomaldjedncjoaa.E
open Go

structure Ty (α : Type) where
  sz : Nat
  enc : α → List Value
  len : ∀ x, (enc x).length = sz
  one : ∀ x, ∀ v ∈ enc x, v.oneCell' = true
def oad (a : Option Nat) : Option Addr := a.map fun g => ⟨g, 0, none⟩
theorem oad_none : oad none = none := rfl
theorem oad_some (g : Nat) : oad (some g) = some ⟨g, 0, none⟩ := rfl
def tInt (k : IntKind) : Ty Int := ⟨1, fun n => [.int k n], fun _ => rfl, fun x v h => by simp at h; subst h; rfl⟩
def tBool : Ty Bool := ⟨1, fun n => [.bool n], fun _ => rfl, fun x v h => by simp at h; subst h; rfl⟩
def tStr : Ty ByteArray := ⟨1, fun n => [.string n], fun _ => rfl, fun x v h => by simp at h; subst h; rfl⟩

theorem flat_length {α : Type} (τ : Ty α) (xs : List α) : (xs.flatMap τ.enc).length = xs.length * τ.sz := by
  induction xs with
  | nil => simp
  | cons x xs ih => simp [ih, τ.len, Nat.add_mul, Nat.add_comm]
theorem flat_get {α : Type} (τ : Ty α) : ∀ (xs : List α) (k j : Nat) (y : α), xs[k]? = some y → j < τ.sz → (xs.flatMap τ.enc)[k * τ.sz + j]? = (τ.enc y)[j]?
  | [], k, j, y, h, _ => by simp at h
  | x :: xs, 0, j, y, h, hj => by
    have : x = y := by simpa using h
    subst this
    simp only [List.flatMap_cons, Nat.zero_mul, Nat.zero_add]
    rw [List.getElem?_append_left (by rw [τ.len]; exact hj)]
  | x :: xs, k + 1, j, y, h, hj => by
    have ih := flat_get τ xs k j y (by simpa using h) hj
    simp only [List.flatMap_cons]
    rw [List.getElem?_append_right (by rw [τ.len, Nat.add_mul]; omega), ← ih, τ.len, show (k + 1) * τ.sz + j - τ.sz = k * τ.sz + j by rw [Nat.add_mul]; omega]
theorem flat_take {α : Type} (τ : Ty α) : ∀ (xs : List α) (k : Nat), (xs.flatMap τ.enc).take (k * τ.sz) = (xs.take k).flatMap τ.enc
  | [], k => by simp
  | x :: xs, 0 => by simp
  | x :: xs, k + 1 => by
    simp only [List.flatMap_cons, List.take_succ_cons]
    rw [List.take_append, List.take_of_length_le (by rw [τ.len, Nat.add_mul]; omega), τ.len, show (k + 1) * τ.sz - τ.sz = k * τ.sz by rw [Nat.add_mul]; omega, flat_take τ xs k]
theorem flat_drop {α : Type} (τ : Ty α) : ∀ (xs : List α) (k : Nat), (xs.flatMap τ.enc).drop (k * τ.sz) = (xs.drop k).flatMap τ.enc
  | [], k => by simp
  | x :: xs, 0 => by simp
  | x :: xs, k + 1 => by
    simp only [List.flatMap_cons, List.drop_succ_cons]
    rw [List.drop_append, List.drop_of_length_le (by rw [τ.len, Nat.add_mul]; omega), τ.len, show (k + 1) * τ.sz - τ.sz = k * τ.sz by rw [Nat.add_mul]; omega, flat_drop τ xs k, List.nil_append]

/-- A slice of the call's own: nil, or a row from a block's head on, with spare places. -/
def row {α : Type} (a : Option Nat) (T : TypeId) (cap : Nat) (τ : Ty α) (xs : List α) : Res where
  W := fun b => a = some b
  R := fun _ => False
  ok := fun h => (a = none ∧ xs = [] ∧ cap = 0) ∨ ∃ g cur, a = some g ∧ h g = some (.cells cur T (0, 0)) ∧ xs.length ≤ cap ∧ cap ≤ maxLen ∧ cur.size = cap * τ.sz ∧ cur.toList.take (xs.length * τ.sz) = xs.flatMap τ.enc
  loc := fun h h' hh ho => by
    rcases ho with ho | ⟨g, cur, rfl, h1, h2⟩
    · exact .inl ho
    · exact .inr ⟨g, cur, rfl, by rw [hh g (.inl rfl)]; exact h1, h2⟩
  bnd := fun h ho b hb => by
    rcases hb with rfl | hb
    · rcases ho with ⟨h0, _⟩ | ⟨g, cur, h0, h1, _⟩
      · cases h0
      · injection h0 with h0; subst h0; rw [h1]; simp
    · exact hb.elim
theorem row_some {α : Type} {w : World} {g : Nat} {T : TypeId} {cap : Nat} {τ : Ty α} {xs : List α} (h : (row (some g) T cap τ xs).ok (hp w)) :
    ∃ cur : Array Value, w.heap[g]? = some (.cells cur T (0, 0)) ∧ xs.length ≤ cap ∧ cap ≤ maxLen ∧ cur.size = cap * τ.sz ∧ cur.toList.take (xs.length * τ.sz) = xs.flatMap τ.enc := by
  rcases h with ⟨h0, _⟩ | ⟨g', cur, h0, h1, h2⟩
  · cases h0
  · injection h0 with h0; subst h0; exact ⟨cur, h1, h2⟩
theorem row_cell {α : Type} {w : World} {g : Nat} {T : TypeId} {cap : Nat} {τ : Ty α} {xs : List α} (h : (row (some g) T cap τ xs).ok (hp w)) {k j : Nat} {y : α} {v : Value} (hk : xs[k]? = some y) (hv : (τ.enc y)[j]? = some v) :
    w.cell? ⟨g, k * τ.sz + j, none⟩ = some v := by
  obtain ⟨cur, h1, h2, h3, h4, h5⟩ := row_some h
  have hj : j < τ.sz := by rw [← τ.len y]; exact (List.getElem?_eq_some_iff.1 hv).1
  have hk' : k < xs.length := (List.getElem?_eq_some_iff.1 hk).1
  have hlt : k * τ.sz + j < xs.length * τ.sz := by
    have : (k + 1) * τ.sz ≤ xs.length * τ.sz := Nat.mul_le_mul_right _ hk'
    rw [Nat.add_mul] at this; omega
  have hf := flat_get τ xs k j y hk hj
  rw [← h5, List.getElem?_take_of_lt hlt, hv] at hf
  simp only [World.cell?, h1]
  simpa using hf
theorem row_len {α : Type} {w : World} {a : Option Nat} {T : TypeId} {cap : Nat} {τ : Ty α} {xs : List α} (h : (row a T cap τ xs).ok (hp w)) : xs.length ≤ cap ∧ cap ≤ maxLen := by
  rcases h with ⟨_, rfl, rfl⟩ | ⟨g, cur, _, _, h1, h2, _⟩
  · simp
  · exact ⟨h1, h2⟩
theorem row_isSome {α : Type} {w : World} {a : Option Nat} {T : TypeId} {cap : Nat} {τ : Ty α} {xs : List α} (h : (row a T cap τ xs).ok (hp w)) (hx : 0 < xs.length) : ∃ g, a = some g := by
  rcases h with ⟨_, rfl, _⟩ | ⟨g, cur, h, _⟩
  · simp at hx
  · exact ⟨g, h⟩
theorem row_nil {α : Type} (w : World) (T : TypeId) (τ : Ty α) : (row none T 0 τ []).ok (hp w) := .inl ⟨rfl, rfl, rfl⟩

/-- A slice that is only read: from whatever place on. -/
def ro {α : Type} (ad : Option Addr) (τ : Ty α) (xs : List α) : Res where
  W := fun _ => False
  R := fun b => xs ≠ [] ∧ ∃ x, ad = some x ∧ x.block = b
  ok := fun h => xs = [] ∨ ∃ b o cs T fz, ad = some ⟨b, o, none⟩ ∧ h b = some (.cells cs T fz) ∧ ∀ j v, (xs.flatMap τ.enc)[j]? = some v → cs[o + j]? = some v
  loc := fun h h' hh ho => by
    rcases ho with ho | ⟨b, o, cs, T, fz, h1, h2, h3⟩
    · exact .inl ho
    · by_cases hx : xs = []
      · exact .inl hx
      · exact .inr ⟨b, o, cs, T, fz, h1, by rw [hh b (.inr ⟨hx, _, h1, rfl⟩)]; exact h2, h3⟩
  bnd := fun h ho b hb => by
    rcases hb with hb | ⟨hx, x, rfl, rfl⟩
    · exact hb.elim
    · rcases ho with ho | ⟨b, o, cs, T, fz, h1, h2, h3⟩
      · exact absurd ho hx
      · injection h1 with h1; subst h1; rw [h2]; simp
theorem ro_cell {α : Type} {w : World} {b o : Nat} {τ : Ty α} {xs : List α} (h : (ro (some ⟨b, o, none⟩) τ xs).ok (hp w)) {k j : Nat} {y : α} {v : Value} (hk : xs[k]? = some y) (hv : (τ.enc y)[j]? = some v) :
    w.cell? ⟨b, o + (k * τ.sz + j), none⟩ = some v := by
  rcases h with rfl | ⟨b', o', cs, T, fz, h1, h2, h3⟩
  · simp at hk
  · injection h1 with h1; injection h1 with h1 h1'; subst h1; subst h1'
    have hj : j < τ.sz := by rw [← τ.len y]; exact (List.getElem?_eq_some_iff.1 hv).1
    have hf := h3 _ v (by rw [flat_get τ xs k j y hk hj]; exact hv)
    have h2' : w.heap[b]? = some (.cells cs T fz) := h2
    simp only [World.cell?, h2']
    simpa using hf
theorem ro_isSome {α : Type} {w : World} {ad : Option Addr} {τ : Ty α} {xs : List α} (h : (ro ad τ xs).ok (hp w)) (hx : 0 < xs.length) : ∃ b o, ad = some ⟨b, o, none⟩ := by
  rcases h with rfl | ⟨b, o, cs, T, fz, h1, h2, h3⟩
  · simp at hx
  · exact ⟨b, o, h1⟩

/-! ### The operations on slices -/
section
variable {P : Program} {G : Cx} {ops : Array Oper} {Q : Po} {D : List Deferred} {e : Env} {L : Heap} {K : Ko} {ty : TypeId} {pos : String} {af : Array Edge} {d : Nat} {α : Type}

theorem rd_len {t E sz by_ : Nat} {x : Operand} {a : Option Addr} {n c : Nat} [ht : SlT P t E sz by_] (hx : ev e x = .slice a n c) : Rd P G ⟨some d, .call ⟨.builtin .len, #[x], #[t]⟩, ty, pos, af, none⟩ ((.int .i64 (n : Int))) e L :=
  ⟨rfl, (fun c => by simp), fun w _ => by
    simp [execOp, resolve, invoke, builtin, hx, Builtin.len_, underlying, ht.s.1, goInt]⟩
class StT (P : Program) (t : TypeId) : Prop where
  a : P.underlying t = some .string
theorem rd_lenS {t : Nat} {x : Operand} {s : ByteArray} [ht : StT P t] (hx : ev e x = .string s) : Rd P G ⟨some d, .call ⟨.builtin .len, #[x], #[t]⟩, ty, pos, af, none⟩ ((.int .i64 (s.size : Int))) e L :=
  ⟨rfl, (fun c => by simp), fun w _ => by
    simp [execOp, resolve, invoke, builtin, hx, Builtin.len_, underlying, ht.a, goInt]⟩

theorem run_indexAt {t E sz by_ : Nat} [ht : SlT P t E sz by_] (w : World) {b o n c : Nat} {k : IntKind} {i : Nat} (h1 : i < n) :
    (Instr.indexAt t (.slice (some ⟨b, o, none⟩) n c) (.int k (i : Int))).run P w = .ok (.pointer (some ⟨b, o + i * sz, none⟩)) w := by
  obtain ⟨hu, ii, hi, hs, _⟩ := ht.s
  have : (0 : Int) ≤ i ∧ (i : Int) < n := ⟨by omega, by omega⟩
  simp [Instr.indexAt, asIntOf, underlying, hu, this, run_sizeOf_of w hi, hs, add_lit]
  intro hh; omega
theorem rd_idx {t E sz by_ : Nat} [ht : SlT P t E sz by_] {x ix : Operand} {b o n c : Nat} {k : IntKind} {i : Nat} (hx : ev e x = .slice (some ⟨b, o, none⟩) n c) (hi : ev e ix = .int k (i : Int)) (h1 : i < n) : Rd P G ⟨some d, .indexAddr t x ix, ty, pos, af, none⟩ ((.pointer (some ⟨b, o + i * sz, none⟩))) e L :=
  ⟨rfl, (fun c => by simp), fun w _ => by
    simp only [execOp, hx, hi, Sem.run_bind, run_indexAt w h1, Result.andThen_ok, Sem.run_pure]⟩
theorem rd_idx0 {t E sz by_ : Nat} [ht : SlT P t E sz by_] {x ix : Operand} {b n c : Nat} {k : IntKind} {i : Nat} (hx : ev e x = .slice (some ⟨b, 0, none⟩) n c) (hi : ev e ix = .int k (i : Int)) (h1 : i < n) : Rd P G ⟨some d, .indexAddr t x ix, ty, pos, af, none⟩ ((.pointer (some ⟨b, i * sz, none⟩))) e L := by
  have := rd_idx (P := P) (G := G) (L := L) (d := d) (t := t) (ty := ty) (pos := pos) (af := af) hx hi h1
  rwa [Nat.zero_add] at this
/-- A row's element: i a natural number, the row not nil. -/
theorem st_idxR {t E sz by_ : Nat} [ht : SlT P t E sz by_] {x ix : Operand} {a : Option Nat} {n c : Nat} {k : IntKind} {i : Nat} {T cap : Nat} {τ : Ty α} {xs : List α} {R : Heap} (hx : ev e x = .slice (oad a) n c) (hi : ev e ix = .int k (i : Int))
    (hs : Sel L (row a T cap τ xs) R) (h0 : i < n) (h1 : n ≤ xs.length) (h : ∀ g, a = some g → K D (upd e d (.pointer (some ⟨g, i * sz, none⟩))) L) : OpK P G ops Q ⟨some d, .indexAddr t x ix, ty, pos, af, none⟩ K D e L :=
  ⟨fun hd a' w ha hw => by
    obtain ⟨g, rfl⟩ := row_isSome (hw.ok _ hs.mem) (by omega)
    refine (opk_val (v := .pointer (some ⟨g, i * sz, none⟩)) rfl (fun c => by simp) (fun w _ => ?_) (h g rfl)).out hd a' w ha hw
    simp only [execOp, hx, hi, oad_some, Sem.run_bind, run_indexAt w h0, Result.andThen_ok, Sem.run_pure, Nat.zero_add]⟩
/-- The same by an Int index. -/
theorem st_idxRi {t E sz by_ : Nat} [ht : SlT P t E sz by_] {x ix : Operand} {a : Option Nat} {n c : Nat} {k : IntKind} {i : Int} (j : Nat) {T cap : Nat} {τ : Ty α} {xs : List α} {R : Heap} (hij : i = (j : Int)) (hx : ev e x = .slice (oad a) n c) (hi : ev e ix = .int k i)
    (hs : Sel L (row a T cap τ xs) R) (h0 : j < n) (h1 : n ≤ xs.length) (h : ∀ g, a = some g → K D (upd e d (.pointer (some ⟨g, j * sz, none⟩))) L) : OpK P G ops Q ⟨some d, .indexAddr t x ix, ty, pos, af, none⟩ K D e L := by
  subst hij; exact st_idxR hx hi hs h0 h1 h
theorem rd_loadR {t : TypeId} {x : Operand} {g k j sz : Nat} {T cap : Nat} {τ : Ty α} {xs : List α} {R : Heap} {y : α} {v : Value} [Sc P t] (hx : ev e x = .pointer (some ⟨g, k * sz + j, none⟩)) (hs : Sel L (row (some g) T cap τ xs) R) (hz : τ.sz = sz) (hk : xs[k]? = some y) (hv : (τ.enc y)[j]? = some v) :
    Rd P G ⟨some d, .load t x, ty, pos, af, none⟩ v e L :=
  ⟨rfl, (fun c => by simp), (fun w hw => by
    have hc := row_cell (hw.ok _ hs.mem) hk hv
    rw [hz] at hc
    simp only [execOp, hx, Instr.loadAt, Instr.sureAddr, loadVar, Sem.run_bind, Sem.run_pure, Result.andThen_ok, run_isAgg_sc, Bool.false_eq_true, if_false]
    rw [run_loadB hc]
    simp)⟩
theorem rd_loadR0 {t : TypeId} {x : Operand} {g k sz : Nat} {T cap : Nat} {τ : Ty α} {xs : List α} {R : Heap} {y : α} {v : Value} [Sc P t] (hx : ev e x = .pointer (some ⟨g, k * sz, none⟩)) (hs : Sel L (row (some g) T cap τ xs) R) (hz : τ.sz = sz) (hk : xs[k]? = some y) (hv : (τ.enc y)[0]? = some v) :
    Rd P G ⟨some d, .load t x, ty, pos, af, none⟩ v e L :=
  rd_loadR (j := 0) (sz := sz) (by simpa using hx) hs hz hk hv
theorem rd_loadRA {t n : Nat} {x : Operand} {g k sz : Nat} {T cap : Nat} {τ : Ty α} {xs : List α} {R : Heap} {y : α} [Ag P t n] (hx : ev e x = .pointer (some ⟨g, k * sz, none⟩)) (hs : Sel L (row (some g) T cap τ xs) R) (hz : τ.sz = sz) (hn : sz = n) (hk : xs[k]? = some y) :
    Rd P G ⟨some d, .load t x, ty, pos, af, none⟩ (.agg (τ.enc y).toArray) e L :=
  ⟨rfl, (fun c => by simp), (fun w hw => by
    simp only [execOp, hx, Instr.loadAt, Instr.sureAddr, Sem.run_bind, Sem.run_pure, Result.andThen_ok]
    rw [run_loadVar_ag (τ.enc y) (by rw [τ.len, hz, hn]) (fun j v hv => by
      have hc := row_cell (hw.ok _ hs.mem) hk hv
      rwa [hz] at hc)]
    simp)⟩
/-! the same of a row that is only read -/
theorem rd_loadO {t : TypeId} {x : Operand} {b o k j sz : Nat} {τ : Ty α} {xs : List α} {R : Heap} {y : α} {v : Value} [Sc P t] (hx : ev e x = .pointer (some ⟨b, o + k * sz + j, none⟩)) (hs : Sel L (ro (some ⟨b, o, none⟩) τ xs) R) (hz : τ.sz = sz) (hk : xs[k]? = some y) (hv : (τ.enc y)[j]? = some v) :
    Rd P G ⟨some d, .load t x, ty, pos, af, none⟩ v e L :=
  ⟨rfl, (fun c => by simp), (fun w hw => by
    have hc := ro_cell (hw.ok _ hs.mem) hk hv
    rw [hz, ← Nat.add_assoc] at hc
    simp only [execOp, hx, Instr.loadAt, Instr.sureAddr, loadVar, Sem.run_bind, Sem.run_pure, Result.andThen_ok, run_isAgg_sc, Bool.false_eq_true, if_false]
    rw [run_loadB hc]
    simp)⟩
theorem rd_loadO0 {t : TypeId} {x : Operand} {b o k sz : Nat} {τ : Ty α} {xs : List α} {R : Heap} {y : α} {v : Value} [Sc P t] (hx : ev e x = .pointer (some ⟨b, o + k * sz, none⟩)) (hs : Sel L (ro (some ⟨b, o, none⟩) τ xs) R) (hz : τ.sz = sz) (hk : xs[k]? = some y) (hv : (τ.enc y)[0]? = some v) :
    Rd P G ⟨some d, .load t x, ty, pos, af, none⟩ v e L :=
  rd_loadO (j := 0) (sz := sz) (by simpa using hx) hs hz hk hv
theorem rd_loadOA {t n : Nat} {x : Operand} {b o k sz : Nat} {τ : Ty α} {xs : List α} {R : Heap} {y : α} [Ag P t n] (hx : ev e x = .pointer (some ⟨b, o + k * sz, none⟩)) (hs : Sel L (ro (some ⟨b, o, none⟩) τ xs) R) (hz : τ.sz = sz) (hn : sz = n) (hk : xs[k]? = some y) :
    Rd P G ⟨some d, .load t x, ty, pos, af, none⟩ (.agg (τ.enc y).toArray) e L :=
  ⟨rfl, (fun c => by simp), (fun w hw => by
    simp only [execOp, hx, Instr.loadAt, Instr.sureAddr, Sem.run_bind, Sem.run_pure, Result.andThen_ok]
    rw [run_loadVar_ag (τ.enc y) (by rw [τ.len, hz, hn]) (fun j v hv => by
      have hc := ro_cell (hw.ok _ hs.mem) hk hv
      rwa [hz, ← Nat.add_assoc] at hc)]
    simp)⟩
theorem st_idxO {t E sz by_ : Nat} [ht : SlT P t E sz by_] {x ix : Operand} {ad : Option Addr} {n c : Nat} {k : IntKind} {i : Nat} {τ : Ty α} {xs : List α} {R : Heap} (hx : ev e x = .slice ad n c) (hi : ev e ix = .int k (i : Int))
    (hs : Sel L (ro ad τ xs) R) (h0 : i < n) (h1 : n ≤ xs.length) (h : ∀ b o, ad = some ⟨b, o, none⟩ → K D (upd e d (.pointer (some ⟨b, o + i * sz, none⟩))) L) : OpK P G ops Q ⟨some d, .indexAddr t x ix, ty, pos, af, none⟩ K D e L :=
  ⟨fun hd a' w ha hw => by
    obtain ⟨b, o, rfl⟩ := ro_isSome (hw.ok _ hs.mem) (by omega)
    refine (opk_val (v := .pointer (some ⟨b, o + i * sz, none⟩)) rfl (fun c => by simp) (fun w _ => ?_) (h b o rfl)).out hd a' w ha hw
    simp only [execOp, hx, hi, Sem.run_bind, run_indexAt w h0, Result.andThen_ok, Sem.run_pure]⟩
theorem OW.row_some {l : List Oper} {a : Option Nat} {T cap : Nat} {τ : Ty α} {xs : List α} {R : Heap} (hs : Sel L (row a T cap τ xs) R) (h0 : 0 < xs.length) (h : ∀ g, a = some g → OW P G ops Q l D e L) : OW P G ops Q l D e L :=
  ⟨fun hd a' w ha hw => by
    obtain ⟨g, hg⟩ := row_isSome (hw.ok _ hs.mem) h0
    exact (h g hg).out hd a' w ha hw⟩
theorem CW.row_some {c : Code} {a : Option Nat} {T cap : Nat} {τ : Ty α} {xs : List α} {R : Heap} (hs : Sel L (row a T cap τ xs) R) (h0 : 0 < xs.length) (h : ∀ g, a = some g → CW P G c Q D e L) : CW P G c Q D e L :=
  ⟨fun a' w ha hw => by
    obtain ⟨g, hg⟩ := row_isSome (hw.ok _ hs.mem) h0
    exact (h g hg).out a' w ha hw⟩
theorem CW.ro_some {c : Code} {ad : Option Addr} {τ : Ty α} {xs : List α} {R : Heap} (hs : Sel L (ro ad τ xs) R) (h0 : 0 < xs.length) (h : ∀ b o, ad = some ⟨b, o, none⟩ → CW P G c Q D e L) : CW P G c Q D e L :=
  ⟨fun a' w ha hw => by
    obtain ⟨b, o, hg⟩ := ro_isSome (hw.ok _ hs.mem) h0
    exact (h b o hg).out a' w ha hw⟩
theorem tr_addNil {w0 w : World} {A0 L : Heap} (T : TypeId) (τ : Ty α) (h : Tr w0 A0 w L) : Tr w0 A0 w (row none T 0 τ [] :: L) := by
  refine ⟨fun x hx => ?_, List.pairwise_cons.2 ⟨fun y hy b => ⟨fun hb => (by cases hb), fun _ hb => hb⟩, h.ap⟩, h.os, h.tape, h.out, h.size, h.keep, fun x hx b hb => ?_, fun x hx b hb => ?_⟩
  · rcases List.mem_cons.1 hx with rfl | hx
    · exact row_nil w T τ
    · exact h.ok x hx
  · rcases List.mem_cons.1 hx with rfl | hx
    · cases hb
    · exact h.subW x hx b hb
  · rcases List.mem_cons.1 hx with rfl | hx
    · exact hb.elim
    · exact h.subR x hx b hb
theorem CW.addNil {c : Code} (T : TypeId) (τ : Ty α) (h : CW P G c Q D e (row none T 0 τ [] :: L)) : CW P G c Q D e L := h.heap fun w hw => tr_addNil T τ hw
theorem OW.addNil {l : List Oper} (T : TypeId) (τ : Ty α) (h : OW P G ops Q l D e (row none T 0 τ [] :: L)) : OW P G ops Q l D e L := h.heap fun w hw => tr_addNil T τ hw
theorem setAt_eq (vs cs : List Value) (p : Nat) (h : p + vs.length ≤ cs.length) : setAt cs p vs = cs.take p ++ vs ++ cs.drop (p + vs.length) := by
  have h1 : cs = cs.take p ++ cs.drop p := (List.take_append_drop p cs).symm
  have hl : (cs.take p).length = p := by rw [List.length_take]; omega
  have := setAt_append vs (cs.take p) (cs.drop p) (by rw [List.length_drop]; omega)
  rw [hl, ← h1, List.drop_drop] at this
  exact this
theorem take_mid {β : Type} (l e : List β) (p s n : Nat) (he : e.length = s) (h : p + s ≤ n) (hn : n ≤ l.length) :
    (l.take p ++ e ++ l.drop (p + s)).take n = (l.take n).take p ++ e ++ (l.take n).drop (p + s) := by
  generalize hu : l.take n = u
  generalize hv : l.drop n = v
  have hl : l = u ++ v := by rw [← hu, ← hv, List.take_append_drop]
  have hul : u.length = n := by rw [← hu, List.length_take]; omega
  rw [hl, List.take_append_of_le_length (l₁ := u) (i := p) (by omega), List.drop_append_of_le_length (l₁ := u) (i := p + s) (by omega), ← List.append_assoc]
  refine List.take_left' ?_
  simp only [List.length_append, List.length_take, List.length_drop, he, hul]
  omega
theorem row_store {w : World} {g : Nat} {T : TypeId} {cap : Nat} {τ : Ty α} {xs : List α} (h : (row (some g) T cap τ xs).ok (hp w)) {k : Nat} (hk : k < xs.length) (y : α) :
    ∃ cur : Array Value, w.heap[g]? = some (.cells cur.toList.toArray T (0, 0)) ∧ k * τ.sz + τ.sz ≤ cur.toList.length ∧
      Tr w [row (some g) T cap τ xs] (putB w g (.cells (setAt cur.toList (k * τ.sz) (τ.enc y)).toArray T (0, 0))) [row (some g) T cap τ (xs.set k y)] := by
  obtain ⟨cur, h1, h2, h3, h4, h5⟩ := row_some h
  have hb : g < w.heap.size := hp_lt (w := w) (b := g) (by simp [hp, h1])
  have h6 : (k + 1) * τ.sz ≤ xs.length * τ.sz := Nat.mul_le_mul_right _ hk
  have h7 : xs.length * τ.sz ≤ cap * τ.sz := Nat.mul_le_mul_right _ h2
  rw [Nat.add_mul, Nat.one_mul] at h6
  have hl : k * τ.sz + τ.sz ≤ cur.toList.length := by rw [Array.length_toList]; omega
  refine ⟨cur, by simpa using h1, hl, tr_putB _ hb (fun c => ⟨fun h => (Option.some.inj h).symm, fun h => by rw [h]; rfl⟩) (fun c => ⟨fun h => (Option.some.inj h).symm, fun h => by rw [h]; rfl⟩) (fun c h => h) (.inr ⟨g, _, rfl, by rw [hp_putB _ hb, if_pos rfl], by simpa using h2, h3, by simp [setAt_length, h4], ?_⟩)⟩
  have hsplit : xs.set k y = xs.take k ++ [y] ++ xs.drop (k + 1) := by
    rw [List.set_eq_take_append_cons_drop, if_pos hk]; simp
  rw [hsplit]
  simp only [List.flatMap_append, List.flatMap_cons, List.flatMap_nil, List.append_nil, ← flat_take, ← flat_drop, ← h5]
  rw [setAt_eq _ _ _ (by rw [τ.len]; exact hl), τ.len]
  have hlen : (xs.take k ++ [y] ++ xs.drop (k + 1)).length = xs.length := by rw [← hsplit, List.length_set]
  rw [hlen, Nat.add_mul, Nat.one_mul]
  exact take_mid cur.toList (τ.enc y) _ _ _ (τ.len y) h6 (Nat.le_trans h7 (Nat.le_of_eq (by rw [Array.length_toList]; exact h4.symm)))
theorem st_storeRA {t n : Nat} {x z : Operand} {g k sz : Nat} {T cap : Nat} {τ : Ty α} {xs : List α} {R : Heap} {y : α} [Ag P t n] (hx : ev e x = .pointer (some ⟨g, k * sz, none⟩)) (hz : ev e z = .agg (τ.enc y).toArray) (hs : Sel L (row (some g) T cap τ xs) R) (hsz : τ.sz = sz) (hn : sz = n) (hk : k < xs.length)
    (h : K D e (row (some g) T cap τ (xs.set k y) :: R)) : OpK P G ops Q ⟨none, .store t x z, ty, pos, af, none⟩ K D e L :=
  opk_stepS rfl (fun c => by simp) hs.perm fun w hw => by
    obtain ⟨cur, h1, h2, h3⟩ := row_store (hw.ok _ (show row (some g) T cap τ xs ∈ _ by simp)) hk y
    refine ⟨_, _, ?_, h3, h⟩
    simp only [execOp, hx, hz, Instr.storeAt, Instr.sureAddr, Sem.run_bind, Sem.run_pure, Result.andThen_ok]
    subst hsz
    rw [run_storeVar_ag h1 (τ.enc y) (by rw [τ.len, hn]) (by rw [← hn]; exact h2) (fun v hv => τ.one y v hv)]
    simp
theorem st_storeR {t : Nat} {x z : Operand} {g k sz : Nat} {T cap : Nat} {τ : Ty α} {xs : List α} {R : Heap} {v : Value} (y : α) [Sc P t] (hx : ev e x = .pointer (some ⟨g, k * sz, none⟩)) (hz : ev e z = v) (hv : τ.enc y = [v]) (hs : Sel L (row (some g) T cap τ xs) R) (hsz : τ.sz = sz) (hk : k < xs.length)
    (h : K D e (row (some g) T cap τ (xs.set k y) :: R)) : OpK P G ops Q ⟨none, .store t x z, ty, pos, af, none⟩ K D e L :=
  opk_stepS rfl (fun c => by simp) hs.perm fun w hw => by
    obtain ⟨cur, h1, h2, h3⟩ := row_store (hw.ok _ (show row (some g) T cap τ xs ∈ _ by simp)) hk y
    refine ⟨_, _, ?_, h3, h⟩
    subst hsz
    have h1s : τ.sz = 1 := by rw [← τ.len y, hv]; rfl
    have ho := τ.one y v (by rw [hv]; simp)
    have hc : v.cells = #[v] := by cases v <;> simp [Value.oneCell'] at ho <;> rfl
    simp only [execOp, hx, hz, Instr.storeAt, Instr.sureAddr, storeVar, Sem.run_bind, Sem.run_pure, Result.andThen_ok, run_sizeOf_sc, hc, List.size_toArray, List.length_singleton, ne_eq, not_true, if_false, storeCells]
    simp only [add_lit, Nat.add_zero]
    rw [run_storeB h1 (by omega) ho, hv]
    simp [setAt]

/-! prefixes and suffixes -/
theorem rd_pre {t E sz by_ : Nat} [ht : SlT P t E sz by_] {x y : Operand} {a : Option Addr} {n c : Nat} {k : IntKind} {i : Nat} (hx : ev e x = .slice a n c) (hy : ev e y = .int k (i : Int)) (hi : i ≤ c) :
    Rd P G ⟨some d, .slice t x none (some y) none, ty, pos, af, none⟩ (.slice a i c) e L :=
  ⟨rfl, (fun c => by simp), (fun w _ => by
    obtain ⟨hu, ii, hi', hs, _⟩ := ht.s
    have : (0 : Int) ≤ i ∧ (i : Int) ≤ c := ⟨by omega, by omega⟩
    have hadd : (if c = 0 then a else a.map fun x => x.add 0) = a := by
      split
      · rfl
      · cases a <;> simp [Addr.add]
    simp [execOp, hx, hy, Instr.sliceAt, Instr.slice, Instr.sliceBounds, Instr.sliceBound, asIntOf, underlying, hu, this, run_sizeOf_of w hi', hadd]
    intro hh; omega)⟩
def suf (a : Option Addr) (c i sz : Nat) : Option Addr := if c = i then a else a.map fun x => x.add (i * sz)
theorem rd_suf {t E sz by_ : Nat} [ht : SlT P t E sz by_] {x y : Operand} {a : Option Addr} {n c : Nat} {k : IntKind} {i : Nat} (hx : ev e x = .slice a n c) (hy : ev e y = .int k (i : Int)) (hi : i ≤ n) : Rd P G ⟨some d, .slice t x (some y) none none, ty, pos, af, none⟩ ((.slice (suf a c i sz) (n - i) (c - i))) e L :=
  ⟨rfl, (fun c => by simp), fun w _ => by
    obtain ⟨hu, ii, hi', hs, _⟩ := ht.s
    have : (0 : Int) ≤ i ∧ (i : Int) ≤ n := ⟨by omega, by omega⟩
    simp [execOp, hx, hy, Instr.sliceAt, Instr.slice, Instr.sliceBounds, Instr.sliceBound, asIntOf, underlying, hu, this, run_sizeOf_of w hi', hs, suf]
    intro hh; omega⟩

/-! one element appended; several -/
theorem row_owns {w : World} {a : Option Nat} {T : TypeId} {cap : Nat} {τ : Ty α} {xs : List α} (h : (row a T cap τ xs).ok (hp w)) : w.ownsRow 0 T τ.sz (.slice (oad a) xs.length cap) xs.length (xs.flatMap τ.enc) := by
  refine ⟨flat_length τ xs, ?_⟩
  rcases h with ⟨rfl, rfl, rfl⟩ | ⟨g, cur, rfl, h1, h2, h3, h4, h5⟩
  · exact .inl ⟨rfl, rfl⟩
  · exact .inr ⟨g, cap, cur, rfl, Nat.zero_le _, h1, h2, h3, h4, h5⟩
theorem owns_row {w : World} {T : TypeId} {τ : Ty α} {xs : List α} {v : Value} (h : w.ownsRow 0 T τ.sz v xs.length (xs.flatMap τ.enc)) : ∃ a cap, v = .slice (oad a) xs.length cap ∧ (row a T cap τ xs).ok (hp w) ∧ v.ownBlock = a := by
  rcases h.2 with ⟨rfl, h0⟩ | ⟨g, cap, cur, rfl, _, h1, h2, h3, h4, h5⟩
  · have : xs = [] := List.eq_nil_of_length_eq_zero h0
    subst this
    exact ⟨none, 0, rfl, .inl ⟨rfl, rfl, rfl⟩, rfl⟩
  · exact ⟨some g, cap, rfl, .inr ⟨g, cur, rfl, h1, h2, h3, h4, h5⟩, rfl⟩
theorem tr_grown {w w' : World} {a a' : Option Nat} {x y : Res} (hg : w.grownBy w' a) (hx : ∀ c, x.W c ↔ a = some c) (hy : ∀ c, y.W c ↔ a' = some c) (hyr : ∀ c, ¬ y.R c) (hok : y.ok (hp w')) (ha : a' = a ∨ a' = some w.heap.size) : Tr w [x] w' [y] := by
  refine ⟨fun z hz => ?_, List.pairwise_singleton _ _, hg.os, hg.tape, hg.output, hg.size, fun c hc hn => ?_, fun z hz c hc => ?_, fun z hz c hc => ?_⟩
  · obtain rfl := List.mem_singleton.1 hz; exact hok
  · exact hg.block c hc (fun h => hn ⟨x, by simp, (hx c).2 h.symm⟩)
  · obtain rfl := List.mem_singleton.1 hz
    have := (hy c).1 hc
    rcases ha with h | h
    · exact .inl ⟨x, by simp, (hx c).2 (by rw [← h]; exact this)⟩
    · rw [h] at this; injection this with this; exact .inr (by omega)
  · obtain rfl := List.mem_singleton.1 hz; exact (hyr _ hc).elim
/-- append(xs, y), y in a new block of its own. -/
theorem st_append1 {t T sz by_ : Nat} {z : List Value} [ht : SlT P t T sz by_] [hz : Zr P T z] {s x : Operand} {a : Option Nat} {cap b : Nat} {τ : Ty α} {xs : List α} {R R' : Heap} {cs : List Value} (y : α) (hs : ev e s = .slice (oad a) xs.length cap) (hx : ev e x = .slice (some ⟨b, 0, none⟩) 1 1)
    (hr : Sel L (row a T cap τ xs) R) (hb : Sel R (blk b T cs) R') (hcs : cs = τ.enc y) (hsz : τ.sz = sz) (hzl : z.length = sz) (hl : (xs.length + 1) * by_ ≤ 140737488355328)
    (h : ∀ a' cap', K D (upd e d (.slice (oad a') (xs ++ [y]).length cap')) (row a' T cap' τ (xs ++ [y]) :: R')) : OpK P G ops Q ⟨some d, .call ⟨.builtin .append, #[s, x], #[t, t]⟩, ty, pos, af, none⟩ K D e L := by
  subst hcs
  have hperm : L.Perm ([row a T cap τ xs, blk b T (τ.enc y)] ++ R') := hr.perm.trans (List.Perm.cons _ hb.perm)
  refine opk_step (A := [row a T cap τ xs, blk b T (τ.enc y)]) (R := R') rfl (fun c => by simp) hperm fun w hw => ?_
  obtain ⟨hu, i, hi, hs1, hs2⟩ := ht.s
  obtain ⟨i', z', hi', hz', hzc⟩ := hz.z
  rw [hi] at hi'; injection hi' with hi'; subst hi'
  have hrow := hw.ok _ (show row a T cap τ xs ∈ _ by simp)
  have hblk := Holds.blk hw.ok (show blk b T (τ.enc y) ∈ _ by simp)
  subst hsz
  have hown := row_owns hrow
  have hn : 0 < by_ := ht.nz.2
  have hlen : xs.length + 1 ≤ 140737488355328 := Nat.le_trans (Nat.le_mul_of_pos_right _ hn) hl
  obtain ⟨v', w', hrun, hown', hg, _, hat⟩ := run_append_own_at (P := P) w 0 t ty T i z' τ.sz by_ hu hi hz' hs1 hs2 (by rw [hzc]; simpa using hzl) ht.nz.1 _ _ _ hown ⟨b, 0, none⟩ 1 1 (τ.enc y) (by rw [τ.len, Nat.one_mul])
    (fun j u hj => by rw [add_lit, cell_blk hblk]; simpa using hj) (fun u hu => τ.one y u hu) (by simp only [maxLen]; omega) hl (Nat.zero_le _)
  have hxs : (xs ++ [y]).length = xs.length + 1 := by simp
  have hfl : (xs ++ [y]).flatMap τ.enc = xs.flatMap τ.enc ++ τ.enc y := by simp
  rw [← hxs, ← hfl] at hown'
  obtain ⟨a', cap', rfl, hrow', hab⟩ := owns_row hown'
  refine ⟨_, w', [row a' T cap' τ (xs ++ [y])], ?_, ?_, h a' cap'⟩
  · simp only [execOp, resolve, invoke, builtin, Sem.run_bind, Sem.run_pure, Result.andThen_ok, List.map_toArray, List.map_cons, List.map_nil, hs, hx, hrun]
  · have htr : Tr w [row a T cap τ xs] w' [row a' T cap' τ (xs ++ [y])] := by
      have hoa : Value.ownBlock (.slice (oad a) xs.length cap) = a := by cases a <;> rfl
      rw [hoa] at hg hat
      rw [hab] at hat
      exact tr_grown hg (fun c => Iff.rfl) (fun c => Iff.rfl) (fun c h => h) hrow' hat
    have hT := Tr.refl hw
    have := Tr.frame (A0 := [row a T cap τ xs, blk b T (τ.enc y)]) (A := [row a T cap τ xs]) (R := [blk b T (τ.enc y)]) hT htr
    exact this.sub (by simp)
end
end Go.Proofs.Ytomaldjedncjoaa.E
