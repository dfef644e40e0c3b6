/-
The walk's seventh part: what is built.
Conditions: none; these are general lemmas.
-/
import Derived.Test.YtomaldjedncjoaaE6
set_option linter.unusedVariables false
set_option linter.unusedSimpArgs false
namespace Go.Proofs.Ytomaldjedncjoaa.E
open Go

/-- A struct's places (offset, size) and its zero cells. -/
def tBd (P : Program) (t : TypeId) : Option (List (Nat × Nat) × List Value) :=
  match P.underlying t with
  | some (.struct fs) => (fs.toList.mapM fun fd => (P.info? fd.type).map fun i => (fd.offset, i.size)).bind fun pl => (tZr P t).map fun z => (pl, z)
  | _ => none
class Bd (P : Program) (t : TypeId) (pl : outParam (List (Nat × Nat))) (z : outParam (List Value)) : Prop where
  a : tBd P t = some (pl, z)
theorem Bd.s {P : Program} {t : TypeId} {pl : List (Nat × Nat)} {z : List Value} (h : Bd P t pl z) : ∃ fs v, P.underlying t = some (.struct fs) ∧ (fs.toList.mapM fun fd => (P.info? fd.type).map fun i => (fd.offset, i.size)) = some pl ∧ (∀ w, (zeroValue t).run P w = .ok v w) ∧ v.cells = z.toArray := by
  have h := h.a
  unfold tBd at h
  split at h
  · rename_i fs hu
    cases hp : (fs.toList.mapM fun fd => (P.info? fd.type).map fun i => (fd.offset, i.size)) with
    | none => simp [hp] at h
    | some pl' =>
      rw [hp, Option.bind_some] at h
      cases hz : tZr P t with
      | none => simp [hz] at h
      | some z' =>
        rw [hz] at h
        simp only [Option.map_some, Option.some.injEq, Prod.mk.injEq] at h
        obtain ⟨rfl, rfl⟩ := h
        obtain ⟨i, v, h1, h2, h3⟩ := Zr.z (P := P) (t := t) ⟨hz⟩
        exact ⟨fs, v, hu, hp, fun w => by simp [zeroValue, typeInfo, h1, h2], h3⟩
  · cases h
def fillV (place : Nat → Option (Nat × Nat)) : List Value → List (Nat × Value) → Option (List Value)
  | cs, [] => some cs
  | cs, (i, v) :: rest =>
    match place i with
    | none => none
    | some (off, sz) => if Nat.beq v.cells.toList.length sz && Nat.ble (off + sz) cs.length then fillV place (setAt cs off v.cells.toList) rest else none
theorem foldl_setAt (vs : List Value) : ∀ (off k : Nat) (cs : List Value), (vs.zipIdx k).foldl (fun (cs : Array Value) (c, j) => cs.setIfInBounds (off + j) c) cs.toArray = (setAt cs (off + k) vs).toArray := by
  induction vs with
  | nil => intro off k cs; rfl
  | cons v vs ih =>
    intro off k cs
    simp only [List.zipIdx_cons, List.foldl_cons, setAt]
    rw [List.setIfInBounds_toArray, ih]
    rfl
theorem fill_fillV {place : Nat → Option (Nat × Nat)} : ∀ (parts : List (Nat × Value)) (cs vs : List Value), fillV place cs parts = some vs → Instr.fill place cs.toArray parts = some vs.toArray
  | [], cs, vs, h => by simp [fillV] at h; simp [Instr.fill, h]
  | (i, v) :: rest, cs, vs, h => by
    simp only [fillV] at h
    cases hp : place i with
    | none => simp [hp] at h
    | some os =>
      obtain ⟨off, sz⟩ := os
      simp only [hp] at h
      split at h
      · rename_i hc
        simp only [Bool.and_eq_true, Nat.beq_eq, Nat.ble_eq] at hc
        have ih := fill_fillV rest _ _ h
        have h1 : v.cells.size = sz := by rw [← Array.length_toList]; exact hc.1
        have hf := foldl_setAt v.cells.toList off 0 cs
        simp only [Nat.add_zero] at hf
        have hz : v.cells.zipIdx = v.cells.toList.zipIdx.toArray := by
          apply Array.ext'
          simp
        simp only [Instr.fill, hp]
        rw [if_neg (by simp [h1, hc.2])]
        rw [hz]
        simp only [List.foldl_toArray']
        rw [hf]
        exact ih
      · cases h
section
variable {P : Program} {G : Cx} {ops : Array Oper} {Q : Po} {D : List Deferred} {e : Env} {L : Heap} {K : Ko} {ty : TypeId} {pos : String} {af : Array Edge} {d : Nat}
theorem run_mapM_places {fs : Array Field} {pl : List (Nat × Nat)} (h : (fs.toList.mapM fun fd => (P.info? fd.type).map fun i => (fd.offset, i.size)) = some pl) (w : World) :
    (fs.mapM fun f => (do pure (f.offset, ← sizeOf f.type) : Sem (Nat × Nat))).run P w = .ok pl.toArray w := by
  rw [← Array.toArray_toList (xs := fs)]
  generalize fs.toList = l at h
  rw [List.mapM_toArray]
  have key : ∀ (l : List Field) (pl : List (Nat × Nat)), (l.mapM fun fd => (P.info? fd.type).map fun i => (fd.offset, i.size)) = some pl → (l.mapM fun f => (do pure (f.offset, ← sizeOf f.type) : Sem (Nat × Nat))).run P w = .ok pl w := by
    intro l
    induction l with
    | nil => intro pl h; simp at h; simp [h]
    | cons f l ih =>
      intro pl h
      simp only [List.mapM_cons, Option.bind_eq_bind, Option.bind_eq_some_iff, Option.map_eq_some_iff] at h
      obtain ⟨_, ⟨i, hi, rfl⟩, pl', hpl, h'⟩ := h
      simp only [Option.pure_def, Option.some.injEq] at h'
      subst h'
      have hs : (sizeOf f.type).run P w = .ok i.size w := by simp [sizeOf, typeInfo, hi]
      simp only [List.mapM_cons, Sem.run_bind, hs, Result.andThen_ok, Sem.run_pure, ih pl' hpl]
  rw [Sem.run_map, key l pl h]
  rfl
theorem rd_build {t : TypeId} {pl : List (Nat × Nat)} {z : List Value} {parts : Array (Nat × Operand)} {vs : List Value} [hb : Bd P t pl z] (h : fillV (fun i : Nat => pl[i]?) z (parts.toList.map fun x => (x.1, ev e x.2)) = some vs) :
    Rd P G ⟨some d, .build t parts, ty, pos, af, none⟩ (.agg vs.toArray) e L :=
  ⟨rfl, (fun c => by simp), fun w _ => by
    obtain ⟨fs, v, hu, hpl, hz, hzc⟩ := hb.s
    have hf := fill_fillV _ _ _ h
    have hpl' : (fun i : Nat => pl.toArray[i]?) = (fun i : Nat => pl[i]?) := by funext i; simp
    have hparts : (parts.map fun x => (x.1, ev e x.2)).toList = parts.toList.map fun x => (x.1, ev e x.2) := by simp
    simp only [execOp, Instr.build, Sem.run_bind, hz, Result.andThen_ok, underlying, run_program, hu, run_mapM_places hpl, hzc, Sem.run_pure]
    rw [hpl']
    simp only [hparts, hf, Sem.run_pure, Result.andThen_ok]⟩
theorem flatten_replicate_get (z : List Value) : ∀ (n i : Nat), i < n * z.length → (List.replicate n z).flatten[i]? = z[i % z.length]?
  | 0, i, h => by simp at h
  | n + 1, i, h => by
    rw [List.replicate_succ, List.flatten_cons]
    by_cases hi : i < z.length
    · rw [List.getElem?_append_left hi, Nat.mod_eq_of_lt hi]
    · rw [List.getElem?_append_right (by omega), flatten_replicate_get z n (i - z.length) (by rw [Nat.add_mul] at h; omega)]
      congr 1
      rw [← Nat.mod_eq_sub_mod (by omega)]
theorem zero_cells (z : List Value) (n : Nat) : ((Array.range (n * z.length)).map fun i => z.toArray[i % z.toArray.size]!) = (List.replicate n z).flatten.toArray := by
  apply Array.ext_getElem?
  intro i
  simp only [Array.getElem?_map, Array.getElem?_range, List.size_toArray, List.getElem?_toArray]
  by_cases hi : i < n * z.length
  · rw [flatten_replicate_get z n i hi, if_pos hi]
    have : i % z.length < z.length := Nat.mod_lt _ (by rcases Nat.eq_zero_or_pos z.length with h | h; { rw [h] at hi; simp at hi }; { exact h })
    simp [this]
  · rw [if_neg hi]
    have : (List.replicate n z).flatten.length = n * z.length := by simp
    rw [List.getElem?_eq_none (by omega)]
    rfl
theorem st_buildSlice {t E sz by_ n : Nat} {z : List Value} {parts : Array (Nat × Operand)} {vs : List Value} [ht : SlT P t E sz by_] [hz : Zr P E z] (hzl : Nat.beq z.length sz = true) (hn1 : Nat.ble 1 n = true) (hn : Nat.ble (n * sz) 16777216 = true)
    (h : fillV (fun i => some (i * sz, sz)) (List.replicate n z).flatten (parts.toList.map fun x => (x.1, ev e x.2)) = some vs) (k : ∀ b, K D (upd e d (.slice (some ⟨b, 0, none⟩) n n)) (blk b E vs :: L)) :
    OpK P G ops Q ⟨some d, .buildSlice t n parts, ty, pos, af, none⟩ K D e L :=
  opk_step (A := []) (R := L) rfl (fun c => by simp) (List.Perm.refl _) fun w hw => by
    obtain ⟨hu, i, hi, hs, _⟩ := ht.s
    obtain ⟨zv, hzr, hzc⟩ := run_zero (P := P) w E
    have hzl' : z.length = sz := Nat.eq_of_beq_eq_true hzl
    have hn' : n * sz ≤ 16777216 := Nat.le_of_ble_eq_true hn
    have hf := fill_fillV _ _ _ h
    have hparts : (parts.map fun x => (x.1, ev e x.2)).toList = parts.toList.map fun x => (x.1, ev e x.2) := by simp
    refine ⟨.slice (some ⟨w.heap.size, 0, none⟩) n n, _, _, ?_, tr_newBlk w E vs, k _⟩
    subst hzl'
    have hlim : ¬ n * z.length > 2 ^ 24 := by omega
    have hsz : (sizeOf E).run P w = .ok z.length w := by rw [run_sizeOf_of w hi, hs]
    simp only [execOp, Instr.buildSlice, Sem.run_bind, underlying, run_program, Result.andThen_ok, hu, Sem.run_pure, hsz, if_neg hlim, hparts]
    have h0 : ¬ n * z.length = 0 := by
      have h1 := ht.nz.1
      have h2 := Nat.le_of_ble_eq_true hn1
      have := Nat.mul_pos h2 h1
      omega
    simp only [if_neg h0, Sem.run_bind, hzr, Result.andThen_ok, Sem.run_pure, hzc, zero_cells, hf, newRow, run_newObj]
end
end Go.Proofs.Ytomaldjedncjoaa.E
