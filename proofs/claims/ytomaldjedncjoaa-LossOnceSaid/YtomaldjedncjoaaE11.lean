/-
The walk's eleventh part: ranges over functions; functions that leave with a mark; results in cells.
Conditions: none; these are general lemmas.
-/
import Derived.Test.YtomaldjedncjoaaE10
set_option linter.unusedVariables false
set_option linter.unusedSimpArgs false
namespace Go.Proofs.Ytomaldjedncjoaa.E
open Go

/-! ### A block that is known whole -/
def ob (b : Nat) (o : Obj) : Res where
  W := fun x => x = b
  R := fun _ => False
  ok := fun h => h b = some o
  loc := fun h h' hh ho => by rw [hh b (.inl rfl)]; exact ho
  bnd := fun h ho x hx => by rcases hx with rfl | hx; rw [ho]; simp; exact hx.elim
theorem tr_ob {w0 w : World} {A0 L R : Heap} {b : Nat} {o : Obj} (o' : Obj) (hs : Sel L (ob b o) R) (h : Tr w0 A0 w L) : Tr w0 A0 (putB w b o') (ob b o' :: R) := by
  have h1 := h.perm hs.perm
  have hok : hp w b = some o := h1.ok (ob b o) (by simp)
  have hb : b < w.heap.size := hp_lt (w := w) (b := b) (by rw [hok]; simp)
  exact Tr.frame h1 (tr_putB o' hb (fun c => Iff.rfl) (fun c => Iff.rfl) (fun c h => h) (by show hp _ b = _; rw [hp_putB _ hb, if_pos rfl]))
def lp (l : Nat) (rec : Loop) (st : LoopState) (pn : Option Code) : Res := ob l (.loop { rec with state := st, pending := pn })
def mark (r : Nat) : Deferred := { target := .collected r, args := #[] }
def dfr (r : Nat) : Res := ob r (.deferred (some []))

/-! ### Calling a function value -/
def UpY (P : Program) (y : Value) (args : Array Value) (w : World) (R : Ending → World → Prop) : Prop :=
  ∃ fn first caps, y = .func fn first caps ∧ ((∃ f as, (invoke (.fn fn caps) (first ++ args)).run P w = .ok (.enter f as) w ∧ Calls P f as w R) ∨
    (∃ l f tmps a b, (invoke (.fn fn caps) (first ++ args)).run P w = .ok (.round l f tmps a b) w ∧ RoundIn (FW none) 0 P l f tmps a b w R))
def SpecY (P : Program) (y : Value) (args : List Value) (A : Heap) (B : Value → Heap → Prop) : Prop :=
  ∀ w, Holds w A → UpY P y args.toArray w fun r w' => ∃ v L, r = .returned v ∧ B v L ∧ Tr w A w' L
theorem roundFW {r : Option Nat} {n m : Nat} {P : Program} {l : Nat} {f : FuncId} {tmps : Array Value} {a b : Code} {w : World} {R : Ending → World → Prop} (h : RoundIn (FW none) n P l f tmps a b w R) : RoundIn (FW r) m P l f tmps a b w R := ⟨trivial, fun c cs _ => h.2 c cs (room_FW _ _)⟩
theorem specY_fn {P : Program} {f : FuncId} [Fnc P f] {caps args : List Value} {A : Heap} {B : Value → Heap → Prop} (h : Spec P f (args ++ caps).toArray A B) : SpecY P (.func (.func f) #[] caps.toArray) args A B :=
  fun w hw => ⟨_, _, _, rfl, .inl ⟨f, (args ++ caps).toArray, by simp [invoke, run_callFunc], h w hw⟩⟩
section
variable {P : Program} {G : Cx} {ops : Array Oper} {Q : Po} {D : List Deferred} {e : Env} {L : Heap} {K : Ko} {ty : TypeId} {pos : String} {af : Array Edge} {d : Nat}
theorem st_callY {x : Operand} {y : Value} {args : List Operand} {at_ : Array TypeId} {av : List Value} {A R : Heap} {B : Value → Heap → Prop} (hf : ev e x = y) (ha : args.map (ev e) = av) (hs : SpecY P y av A B) (hp : SelL L A R)
    (h : ∀ v L', B v L' → K D (upd e d v) (R ++ L')) : OpK P G ops Q ⟨some d, .call ⟨.value x, args.toArray, at_⟩, ty, pos, af, none⟩ K D e L :=
  ⟨fun hd' a w ha' hw => by
    rw [if_pos (by simp [Region.wanted])]
    refine ⟨about_FW, ?_⟩
    have hw1 := hw.perm hp.perm
    have hA : Holds w A := ⟨fun x hx => hw1.ok x (List.mem_append_left _ hx), (List.pairwise_append.1 hw1.ap).1⟩
    obtain ⟨fn, first, caps, rfl, hu⟩ := hs w hA
    have hex : (execOp (ev e) ⟨some d, .call ⟨.value x, args.toArray, at_⟩, ty, pos, af, none⟩).run P w = (invoke (.fn fn caps) (first ++ av.toArray)).run P w := by
      simp [execOp, resolve, hf, Deferred.ofValue, ha]
    have hk : ∀ r w', (∃ v L, r = Ending.returned v ∧ B v L ∧ Tr w A w' L) → (match r with | .returned v => liftK G K (a.put (some d) v) w' | .panicked c => lift G Q (.panic c) a w' | .outgrown => LetsOut (lift G Q)) := by
      rintro _ w' ⟨v, L', rfl, hb, ht⟩
      exact ⟨D, _, _, ha'.put _ _ hd', (Tr.frame hw1 ht).perm List.perm_append_comm, h v L' hb⟩
    rw [Oper.semAt_eq _ _ _ (fun c => by simp), ha'.eval, hex]
    rcases hu with ⟨f, as, hr, hc⟩ | ⟨l, f, tmps, a1, b1, hr, hc⟩
    · rw [hr, Oper.uponIn_enter]
      refine ⟨depth_FW _, callsIn_FW.2 (hc.mono fun r w' hh => ?_)⟩
      have := hk r w' hh
      obtain ⟨v, L', rfl, _⟩ := hh; exact this
    · rw [hr, Oper.uponIn_round]
      refine ⟨depth_FW _, (roundFW hc).mono fun r w' hh => ?_⟩
      have := hk r w' hh
      obtain ⟨v, L', rfl, _⟩ := hh; exact this⟩
end

/-! ### What a function that is ranged over does, and the range -/
def Iter (P : Program) (gf : FuncId) (caps : List Value) (A : Heap) (xs : List (List Value)) : Prop :=
  ∀ (y : Value) (I Ex : Nat → Heap → Prop), (∀ k x L, xs[k]? = some x → I k L → SpecY P y x (L ++ A) fun v L' => ∃ L1, L' = L1 ++ A ∧ ((v = .bool true ∧ I (k + 1) L1) ∨ (v = .bool false ∧ Ex k L1))) →
    ∀ L, I 0 L → Spec P gf ([y] ++ caps).toArray (L ++ A) fun _ L' => ∃ L1, L' = L1 ++ A ∧ (I xs.length L1 ∨ ∃ k, k < xs.length ∧ Ex k L1)
def rndQ (l : Nat) (rec : Loop) (A : Heap) (I : Nat → Heap → Prop) (Ex : Code → Nat → Heap → Prop) (k : Nat) : Po
  | .normal, D, e, L => ∃ L1, I (k + 1) L1 ∧ ∀ w0 A0 w, Tr w0 A0 w L → Tr w0 A0 w (lp l rec .busy none :: (L1 ++ A))
  | .ret, D, e, L => ∃ L1, Ex .ret k L1 ∧ ∀ w0 A0 w, Tr w0 A0 w L → Tr w0 A0 w (lp l rec .busy none :: (L1 ++ A))
  | .exit i, D, e, L => ∃ L1, Ex (.exit i) k L1 ∧ ∀ w0 A0 w, Tr w0 A0 w L → Tr w0 A0 w (lp l rec .busy none :: (L1 ++ A))
  | _, _, _, _ => False
def asgQ (P : Program) (G : Cx) (l : Nat) (rec : Loop) (body : Code) (K : Po) : Po
  | .normal, D, e, L => D = [] ∧ ∃ R, Sel L (lp l rec .ready none) R ∧ CW P G body K [] e (lp l rec .busy none :: R)
  | _, _, _, _ => False
section
variable {l : Nat} {rec : Loop} {A : Heap} {I : Nat → Heap → Prop} {Ex : Code → Nat → Heap → Prop} {k : Nat} {D : List Deferred} {e : Env} {L : Heap}
theorem rnd_n (L1 : Heap) (h : I (k + 1) L1) (hl : ∀ w0 A0 w, Tr w0 A0 w L → Tr w0 A0 w (lp l rec .busy none :: (L1 ++ A))) : rndQ l rec A I Ex k .normal D e L := ⟨L1, h, hl⟩
theorem rnd_ret (L1 : Heap) (h : Ex .ret k L1) (hl : ∀ w0 A0 w, Tr w0 A0 w L → Tr w0 A0 w (lp l rec .busy none :: (L1 ++ A))) : rndQ l rec A I Ex k .ret D e L := ⟨L1, h, hl⟩
theorem rnd_exit {i : Nat} (L1 : Heap) (h : Ex (.exit i) k L1) (hl : ∀ w0 A0 w, Tr w0 A0 w L → Tr w0 A0 w (lp l rec .busy none :: (L1 ++ A))) : rndQ l rec A I Ex k (.exit i) D e L := ⟨L1, h, hl⟩
theorem asg_n {P : Program} {G : Cx} {body : Code} {K : Po} {R : Heap} (hs : Sel L (lp l rec .ready none) R) (h : CW P G body K [] e (lp l rec .busy none :: R)) : asgQ P G l rec body K .normal [] e L := ⟨rfl, R, hs, h⟩
end
def penv (e : Env) (ps : List Tmp) (x : List Value) : Env := (ps.zip x).foldl (fun e (p, v) => upd e p v) e
theorem rp_penv {m : Nat} : ∀ (ps : List Tmp) (x : List Value) (e : Env) (a : Act), Rp m e [] a → ps.all (fun p => decide (p < m)) = true → Rp m (penv e ps x) [] { tmps := (ps.zip x).foldl (fun t (p, v) => t.setIfInBounds p v) a.tmps, defers := [] }
  | [], x, e, a, h, _ => ⟨h.sz, rfl, h.val⟩
  | p :: ps, [], e, a, h, _ => ⟨h.sz, rfl, h.val⟩
  | p :: ps, v :: x, e, a, h, hm => by
    simp only [List.all_cons, Bool.and_eq_true] at hm
    have h1 := h.put (some p) v (by simpa using hm.1)
    exact rp_penv ps x _ _ h1 hm.2
theorem run_getLoop' {P : Program} {l : Nat} {r : Loop} {w : World} (h : w.heap[l]? = some (.loop r)) : (Instr.getLoop l).run P w = .ok r w := by
  simp [Instr.getLoop, getObj, Sem.run, h, Sem.run_bind, Result.andThen]
theorem run_setLoop {P : Program} {l : Nat} {r : Loop} {w : World} (o : Obj) (h : w.heap[l]? = some (.loop r)) : (setObj l o).run P w = .ok () (putB w l o) := by simp [setObj, Sem.run, h, putB]
theorem lp_get {w0 w : World} {A0 L R : Heap} {l : Nat} {rec : Loop} {st : LoopState} {pn : Option Code} (hs : Sel L (lp l rec st pn) R) (h : Tr w0 A0 w L) : w.heap[l]? = some (.loop { rec with state := st, pending := pn }) := h.ok _ hs.mem
theorem run_begin {P : Program} {w0 w : World} {A0 L R : Heap} {l : Nat} {rec : Loop} {pn : Option Code} (hs : Sel L (lp l rec .ready pn) R) (h : Tr w0 A0 w L) : ∃ w', (Instr.beginRound l).run P w = .ok () w' ∧ Tr w0 A0 w' (lp l rec .busy pn :: R) := by
  have hg := lp_get hs h
  exact ⟨_, by simp only [Instr.beginRound, Sem.run_bind, run_getLoop' hg, Result.andThen_ok, run_setLoop _ hg, Sem.run_pure], tr_ob _ hs h⟩
theorem run_endRound {P : Program} {w0 w : World} {A0 L R : Heap} {l : Nat} {rec : Loop} {st : LoopState} {pn : Option Code} (j : Option Code) (hs : Sel L (lp l rec st pn) R) (h : Tr w0 A0 w L) :
    ∃ w', (Instr.endRound l j).run P w = .ok (.bool j.isNone) w' ∧ Tr w0 A0 w' (lp l rec (if j.isNone then .ready else .done) j :: R) := by
  have hg := lp_get hs h
  exact ⟨_, by simp only [Instr.endRound, Sem.run_bind, run_getLoop' hg, Result.andThen_ok, run_setLoop _ hg, Sem.run_pure], tr_ob _ hs h⟩
theorem run_endLoop {P : Program} {w0 w : World} {A0 L R : Heap} {l : Nat} {rec : Loop} {st : LoopState} {pn : Option Code} (hst : st ≠ .busy) (hs : Sel L (lp l rec st pn) R) (h : Tr w0 A0 w L) :
    ∃ w', (Instr.endLoop l).run P w = .ok pn w' ∧ Tr w0 A0 w' R := by
  have hg := lp_get hs h
  have hb : (st == LoopState.busy) = false := by cases st <;> first | rfl | exact absurd rfl hst
  refine ⟨_, by simp only [Instr.endLoop, Sem.run_bind, run_getLoop' hg, Result.andThen_ok, hb, Bool.false_eq_true, if_false, run_setLoop _ hg, Sem.run_pure]; rfl, ?_⟩
  exact (tr_ob _ hs h).sub (List.sublist_cons_self _ _)
theorem run_yield {P : Program} {w : World} {l : Nat} {r : Loop} (args : Array Value) (h : w.heap[l]? = some (.loop r)) (hsz : args.size = r.params.size) :
    (Instr.yield l args).run P w = .ok (.round l r.fn ((r.params.zip args).foldl (fun tmps (t, a) => tmps.setIfInBounds t a) r.tmps) r.assign r.body) w := by
  simp [Instr.yield, Sem.run_bind, run_getLoop' h, Result.andThen_ok, hsz]
/-- A round, as what yield does. -/
theorem specY_yield {P : Program} {m : Nat} {l : Nat} {rec : Loop} {e : Env} {a : Act} {D : List Deferred} {ps : List Tmp} {A L1 : Heap} {I : Nat → Heap → Prop} {Ex : Code → Nat → Heap → Prop} {k : Nat} {x : List Value}
    (ha : Rp m e D a) (hrec : rec.tmps = a.tmps) (hps : rec.params = ps.toArray) (hx : x.length = ps.length) (hpm : ps.all (fun p => decide (p < m)) = true)
    (h : ∀ w1, CW P ⟨some l, m, w1, lp l rec .ready none :: (L1 ++ A)⟩ rec.assign (asgQ P ⟨some l, m, w1, lp l rec .ready none :: (L1 ++ A)⟩ l rec rec.body (rndQ l rec A I Ex k)) [] (penv e ps x) (lp l rec .ready none :: (L1 ++ A))) :
    SpecY P (.func (.yield l) #[] #[]) x (lp l rec .ready none :: (L1 ++ A)) fun v L' => (v = .bool true ∧ ∃ L2, I (k + 1) L2 ∧ L' = lp l rec .ready none :: (L2 ++ A)) ∨ (v = .bool false ∧ ∃ c L2, Ex c k L2 ∧ L' = lp l rec .done (some c) :: (L2 ++ A)) := by
  intro w hw
  have hT := Tr.refl hw
  have hg : w.heap[l]? = some (.loop { rec with state := .ready, pending := none }) := lp_get sel0 hT
  refine ⟨_, _, _, rfl, .inr ⟨l, rec.fn, (ps.toArray.zip x.toArray).foldl (fun tmps (t, a) => tmps.setIfInBounds t a) rec.tmps, rec.assign, rec.body, ?_, ?_⟩⟩
  · simp only [invoke]
    rw [Array.empty_append, run_yield x.toArray hg (by simp [hps, hx]), ← hps]
  · refine roundIn_of_wpIn trivial ?_
    have hact : Rp m (penv e ps x) [] { tmps := (ps.toArray.zip x.toArray).foldl (fun tmps (t, a) => tmps.setIfInBounds t a) rec.tmps, defers := [] } := by
      have := rp_penv ps x e { tmps := a.tmps, defers := [] } ⟨ha.sz, rfl, ha.val⟩ hpm
      rw [hrec]
      simpa using this
    refine wpIn_mono ((h w).out _ w hact hT) ?_
    rintro z a1 w1 ⟨hz, D1, e1, L1', h1, h2, h3⟩
    cases z with
    | normal =>
      obtain ⟨rfl, R, hs, hb⟩ := h3
      obtain ⟨w2, hr2, ht2⟩ := run_begin (P := P) hs h2
      refine ⟨w2, hr2, wpIn_mono (hb.out a1 w2 h1 ht2) ?_⟩
      rintro z a2 w3 ⟨hz, D2, e2, L2, g1, g2, g3⟩
      cases z with
      | normal =>
        obtain ⟨L3, g4, g5⟩ := g3
        obtain ⟨w4, hr4, ht4⟩ := run_endRound (P := P) none (sel0 (R := L3 ++ A)) (g5 _ _ _ g2)
        exact ⟨_, w4, hr4, .bool true, _, rfl, .inl ⟨rfl, L3, g4, rfl⟩, ht4⟩
      | ret =>
        obtain ⟨L3, g4, g5⟩ := g3
        obtain ⟨w4, hr4, ht4⟩ := run_endRound (P := P) (some .ret) (sel0 (R := L3 ++ A)) (g5 _ _ _ g2)
        exact ⟨_, w4, hr4, .bool false, _, rfl, .inr ⟨rfl, .ret, L3, g4, rfl⟩, ht4⟩
      | exit i =>
        obtain ⟨L3, g4, g5⟩ := g3
        obtain ⟨w4, hr4, ht4⟩ := run_endRound (P := P) (some (.exit i)) (sel0 (R := L3 ++ A)) (g5 _ _ _ g2)
        exact ⟨_, w4, hr4, .bool false, _, rfl, .inr ⟨rfl, .exit i, L3, g4, rfl⟩, ht4⟩
      | goto t => exact g3.elim
      | panic c => exact hz.elim
      | outgrown => exact hz.elim
    | ret => exact h3.elim
    | exit i => exact h3.elim
    | goto t => exact h3.elim
    | panic c => exact hz.elim
    | outgrown => exact hz.elim
/-- The range over a function, outside of any round. -/
theorem cw_rangeFunc {P : Program} {G : Cx} {Q : Po} {D : List Deferred} {e : Env} {L : Heap} {g : Operand} {ps : List Tmp} {assign body : Code} {gf : FuncId} [Fnc P gf] {caps : List Value} {A R : Heap} {xs : List (List Value)}
    (hr : G.r = none) (hg : ev e g = .func (.func gf) #[] caps.toArray) (hsel : SelL L A R) (hit : Iter P gf caps A xs) (I : Nat → Heap → Prop) (Ex : Code → Nat → Heap → Prop) (h0 : I 0 R)
    (hps : ∀ x ∈ xs, x.length = ps.length) (hpm : ps.all (fun p => decide (p < G.m)) = true)
    (hround : ∀ l w1 rec k x L1, xs[k]? = some x → I k L1 → CW P ⟨some l, G.m, w1, lp l rec .ready none :: (L1 ++ A)⟩ assign (asgQ P ⟨some l, G.m, w1, lp l rec .ready none :: (L1 ++ A)⟩ l rec body (rndQ l rec A I Ex k)) [] (penv e ps x) (lp l rec .ready none :: (L1 ++ A)))
    (hdone : ∀ r L1, I xs.length L1 → Q .normal (mark r :: D) e (dfr r :: (L1 ++ A)))
    (hstop : ∀ r c k L1, k < xs.length → Ex c k L1 → CW P G c Q (mark r :: D) e (dfr r :: (L1 ++ A))) : CW P G (.rangeFunc g ps.toArray assign body) Q D e L :=
  ⟨fun a w ha hw => by
    refine wpIn_rangeFunc fun fn _ => ?_
    have hw1 : Tr G.w0 G.A0 w (R ++ A) := (hw.perm hsel.perm).perm List.perm_append_comm
    let rec0 : Loop := { state := .ready, pending := none, fn := fn, tmps := a.tmps, params := ps.toArray, assign := assign, body := body, defers := w.heap.size }
    let w2 : World := { w with heap := w.heap.push (.deferred (some [])) }
    let w3 : World := { w2 with heap := w2.heap.push (.loop rec0) }
    have hl : w2.heap.size = w.heap.size + 1 := by simp [w2]
    have t2 : Tr G.w0 G.A0 w2 (dfr w.heap.size :: (R ++ A)) := Tr.frame (A := []) hw1 (tr_new (y := dfr w.heap.size) _ (fun c => Iff.rfl) (fun c h => h) (by show hp _ _ = _; rw [hp_push, if_pos rfl]))
    have t3 : Tr G.w0 G.A0 w3 (lp w2.heap.size rec0 .ready none :: dfr w.heap.size :: (R ++ A)) := Tr.frame (A := []) t2 (tr_new (y := lp w2.heap.size rec0 .ready none) _ (fun c => Iff.rfl) (fun c h => h) (by show hp _ _ = _; rw [hp_push, if_pos rfl]))
    have t4 : Tr G.w0 G.A0 w3 ((lp w2.heap.size rec0 .ready none :: (R ++ A)) ++ [dfr w.heap.size]) := t3.perm (List.Perm.cons _ (List.perm_append_singleton _ _).symm)
    have hH : Holds w3 ((lp w2.heap.size rec0 .ready none :: R) ++ A) := ⟨fun x hx => t4.ok x (List.mem_append_left _ hx), (List.pairwise_append.1 t4.ap).1⟩
    refine ⟨w2.heap.size, [mark w.heap.size], w3, { target := .fn (.func gf) caps.toArray, args := #[.func (.yield w2.heap.size) #[] #[]] }, w3, gf, ([Value.func (.yield w2.heap.size) #[] #[]] ++ caps).toArray, w3, ?_, ?_, fun _ _ => trivial, ?_, depth_FW _, ?_⟩
    · show (Instr.enterLoop fn a.tmps ps.toArray assign body G.r).run P w = _
      rw [hr]
      simp only [Instr.enterLoop, Sem.run_bind, run_newObj, Result.andThen_ok, Sem.run_pure, mark]
      rfl
    · simp only [resolve, rangeCall, Deferred.ofValue, ha.eval, hg, Sem.run_pure]; simp [ev]
    · simp [invoke, run_callFunc]
    · refine callsIn_FW.2 ?_
      have hspec := hit (.func (.yield w2.heap.size) #[] #[]) (fun k L' => ∃ L1, I k L1 ∧ L' = lp w2.heap.size rec0 .ready none :: L1) (fun k L' => ∃ c L1, Ex c k L1 ∧ L' = lp w2.heap.size rec0 .done (some c) :: L1) (by
        rintro k x L' hk ⟨L1, hI, rfl⟩
        have hx := hps x (List.mem_of_getElem? hk)
        intro w' hw'
        obtain ⟨fn', first, caps', hy, hu⟩ := specY_yield (I := I) (Ex := Ex) (k := k) (rec := rec0) ha rfl rfl hx hpm (fun w1 => hround w2.heap.size w1 rec0 k x L1 hk hI) w' hw'
        have post : ∀ r w'', (∃ v L, r = Ending.returned v ∧ ((v = .bool true ∧ ∃ L2, I (k + 1) L2 ∧ L = lp w2.heap.size rec0 .ready none :: (L2 ++ A)) ∨ (v = .bool false ∧ ∃ c L2, Ex c k L2 ∧ L = lp w2.heap.size rec0 .done (some c) :: (L2 ++ A))) ∧ Tr w' (lp w2.heap.size rec0 .ready none :: (L1 ++ A)) w'' L) →
            ∃ v L, r = Ending.returned v ∧ (∃ L1, L = L1 ++ A ∧ ((v = .bool true ∧ ∃ L2, I (k + 1) L2 ∧ L1 = lp w2.heap.size rec0 .ready none :: L2) ∨ (v = .bool false ∧ ∃ c L2, Ex c k L2 ∧ L1 = lp w2.heap.size rec0 .done (some c) :: L2))) ∧ Tr w' (lp w2.heap.size rec0 .ready none :: L1 ++ A) w'' L := by
          rintro r w'' ⟨v, L, rfl, hv, ht⟩
          rcases hv with ⟨rfl, L2, g1, rfl⟩ | ⟨rfl, c, L2, g1, rfl⟩
          · exact ⟨_, _, rfl, ⟨_ :: L2, rfl, .inl ⟨rfl, L2, g1, rfl⟩⟩, ht⟩
          · exact ⟨_, _, rfl, ⟨_ :: L2, rfl, .inr ⟨rfl, c, L2, g1, rfl⟩⟩, ht⟩
        refine ⟨fn', first, caps', hy, ?_⟩
        rcases hu with ⟨f, as, h1, h2⟩ | ⟨l, f, tmps, a1, b1, h1, h2⟩
        · exact .inl ⟨f, as, h1, h2.mono post⟩
        · exact .inr ⟨l, f, tmps, a1, b1, h1, h2.mono post⟩) (lp w2.heap.size rec0 .ready none :: R) ⟨R, h0, rfl⟩
      refine (hspec w3 hH).mono ?_
      rintro _ w4 ⟨v, L', rfl, ⟨L1, rfl, hres⟩, ht⟩
      have t5 := Tr.frame t4 ht
      have hsz : ({ a with defers := [mark w.heap.size] ++ a.defers } : Act).tmps.size = G.m := ha.sz
      have hrp : Rp G.m e (mark w.heap.size :: D) { a with defers := [mark w.heap.size] ++ a.defers } := ⟨ha.sz, by rw [ha.df]; rfl, ha.val⟩
      rcases hres with ⟨L2, hI, rfl⟩ | ⟨k, hk, c, L2, hE, rfl⟩
      · obtain ⟨w5, hr5, ht5⟩ := run_endLoop (P := P) (rec := rec0) (by simp) (sel0 (R := (L2 ++ A) ++ [dfr w.heap.size])) t5
        refine ⟨none, w5, hr5, trivial, _, _, _, hrp, ht5.perm (List.perm_append_singleton _ _), hdone w.heap.size L2 hI⟩
      · obtain ⟨w5, hr5, ht5⟩ := run_endLoop (P := P) (rec := rec0) (by simp) (sel0 (R := (L2 ++ A) ++ [dfr w.heap.size])) t5
        exact ⟨some c, w5, hr5, (hstop w.heap.size c k L2 hk hE).out _ w5 hrp (ht5.perm (List.perm_append_singleton _ _))⟩⟩
/-- A row of one's own, from now on only read. -/
theorem tr_row_ro {α : Type} {w0 w : World} {A0 L R : Heap} {a : Option Nat} {T : TypeId} {cap : Nat} {τ : Ty α} {xs : List α} (hs : Sel L (row a T cap τ xs) R) (h : Tr w0 A0 w L) : Tr w0 A0 w (ro (oad a) τ xs :: R) := by
  have h := h.perm hs.perm
  have hRW : ∀ b, (ro (oad a) τ xs).R b → (row a T cap τ xs).W b := fun b ⟨_, x, hx, hb⟩ => by
    cases a with
    | none => cases hx
    | some g => injection hx with hx; subst hx; show some g = some b; rw [← hb]
  refine ⟨fun z hz => ?_, List.pairwise_cons.2 ⟨fun z hz b => ⟨fun hb => hb.elim, fun hb hr => ?_⟩, (List.pairwise_cons.1 h.ap).2⟩, h.os, h.tape, h.out, h.size, h.keep, fun z hz b hb => ?_, fun z hz b hb => ?_⟩
  · rcases List.mem_cons.1 hz with rfl | hz
    · exact ro_of_row (T := T) (cap := cap) (h.ok _ (by simp))
    · exact h.ok z (by simp [hz])
  · exact (((List.pairwise_cons.1 h.ap).1 z hz b).1 (hRW b hr)).1 hb
  · rcases List.mem_cons.1 hz with rfl | hz
    · exact hb.elim
    · exact h.subW z (by simp [hz]) b hb
  · rcases List.mem_cons.1 hz with rfl | hz
    · rcases h.subW (row a T cap τ xs) (by simp) b (hRW b hb) with h' | h'
      · exact .inl h'
      · exact .inr (.inr h')
    · exact h.subR z (by simp [hz]) b hb
/-! ### Functions that leave with marks; results in cells -/
def retQM (P : Program) (fn : Func) (A : Heap) (B : Value → Heap → Prop) : Po
  | .ret, D, e, L => ∃ (rs : List Nat) (L1 : Heap), D = rs.map mark ∧ (∀ w0 w, Tr w0 A w L → Tr w0 A w (rs.map dfr ++ L1)) ∧ ∃ v, RetV P fn e L1 v ∧ ∃ L', (∀ w0 w, Tr w0 A w L1 → Tr w0 A w L') ∧ B v L'
  | .normal, D, e, L => ∃ (rs : List Nat) (L1 : Heap), D = rs.map mark ∧ (∀ w0 w, Tr w0 A w L → Tr w0 A w (rs.map dfr ++ L1)) ∧ ∃ v, RetV P fn e L1 v ∧ ∃ L', (∀ w0 w, Tr w0 A w L1 → Tr w0 A w L') ∧ B v L'
  | _, _, _, _ => False
section
variable {P : Program} {fn : Func} {A : Heap} {B : Value → Heap → Prop} {e : Env} {L L' : Heap} {v : Value}
theorem retM_ret (hv : RetV P fn e L v) (hb : B v L') (h : ∀ w0 w, Tr w0 A w L → Tr w0 A w L') : retQM P fn A B .ret [] e L := ⟨[], L, rfl, fun _ _ h => h, v, hv, L', h, hb⟩
theorem retM_end (hv : RetV P fn e L v) (hb : B v L') (h : ∀ w0 w, Tr w0 A w L → Tr w0 A w L') : retQM P fn A B .normal [] e L := ⟨[], L, rfl, fun _ _ h => h, v, hv, L', h, hb⟩
theorem retM_ret1 {r : Nat} {R : Heap} (hs : Sel L (dfr r) R) (hv : RetV P fn e R v) (hb : B v L') (h : ∀ w0 w, Tr w0 A w R → Tr w0 A w L') : retQM P fn A B .ret [mark r] e L := ⟨[r], R, rfl, fun _ _ h => h.perm hs.perm, v, hv, L', h, hb⟩
theorem retM_end1 {r : Nat} {R : Heap} (hs : Sel L (dfr r) R) (hv : RetV P fn e R v) (hb : B v L') (h : ∀ w0 w, Tr w0 A w R → Tr w0 A w L') : retQM P fn A B .normal [mark r] e L := ⟨[r], R, rfl, fun _ _ h => h.perm hs.perm, v, hv, L', h, hb⟩
theorem run_take {w0 w : World} {A0 R : Heap} {r : Nat} (hs : Sel L (dfr r) R) (h : Tr w0 A0 w L) : ∃ w', (Instr.takeDeferred r).run P w = .ok [] w' ∧ Tr w0 A0 w' R := by
  have hg : w.heap[r]? = some (.deferred (some [])) := h.ok _ hs.mem
  refine ⟨putB w r (.deferred none), ?_, (tr_ob (.deferred none) hs h).sub (List.sublist_cons_self _ _)⟩
  simp [Instr.takeDeferred, getObj, setObj, Sem.run, hg, Sem.run_bind, Result.andThen, putB]
theorem leaves {m : Nat} {w0 : World} {RR : Ending → World → Prop} {D : List Deferred} {a : Act} (ha : Rp m e D a) (hv : RetV P fn e L v) (hfin : ∀ w, Tr w0 A w L → RR (.returned v) w) :
    ∀ (rs : List Nat) (w : World), Tr w0 A w (rs.map dfr ++ L) → LeavesInM (FW none) 0 P fn a.tmps RR (rs.map mark) .returning w
  | [], w, h => ⟨v, hv m D a w ha (fun x hx => h.ok x (by simpa using hx)), hfin w (by simpa using h)⟩
  | r :: rs, w, h => by
    obtain ⟨w', hr, ht⟩ := run_take (P := P) (r := r) (R := rs.map dfr ++ L) (.head _ _) h
    exact ⟨by simp, .inl ⟨r, w', rfl, hr, leaves ha hv hfin rs w' ht⟩⟩
end
theorem spec_ofM {P : Program} {f : FuncId} {fn : Func} {c : Code} {args : List Value} {A : Heap} {B : Value → Heap → Prop} (hf : P.funcs[f]? = some fn) (hb : fn.body = some c) (hm : Nat.ble args.length fn.ntmps = true)
    (h : ∀ w0, Holds w0 A → CW P ⟨none, fn.ntmps, w0, A⟩ c (retQM P fn A B) [] (envL args) A) : Spec P f args.toArray A B := by
  intro w0 hw0
  refine callsIn_FW (r := none) (n := 0) |>.1 ?_
  refine callsIn_of_wp_marks hf hb trivial ?_ rfl
  refine wpIn_mono ((h w0 hw0).out _ w0 (rp_enter (Nat.le_of_ble_eq_true hm)) (Tr.refl hw0)) ?_
  rintro x a w ⟨hx, D, e, L, ha, hw, hq⟩
  have fin : (∃ (rs : List Nat) (L1 : Heap), D = rs.map mark ∧ (∀ w0 w, Tr w0 A w L → Tr w0 A w (rs.map dfr ++ L1)) ∧ ∃ v, RetV P fn e L1 v ∧ ∃ L', (∀ w0 w, Tr w0 A w L1 → Tr w0 A w L') ∧ B v L') →
      LeavesInM (FW none) 0 P fn a.tmps (fun r w' => ∃ v L, r = .returned v ∧ B v L ∧ Tr w0 A w' L) a.defers .returning w := by
    rintro ⟨rs, L1, rfl, hl, v, hv, L', hl', hb'⟩
    rw [ha.df]
    exact leaves ha hv (fun w hw => ⟨v, L', rfl, hb', hl' _ _ hw⟩) rs w (hl _ _ hw)
  cases x with
  | ret => exact fin hq
  | normal => exact fin hq
  | exit i => exact hq.elim
  | goto l => exact hq.elim
  | panic c => exact hx.elim
  | outgrown => exact hx.elim
/-- Results, each in a slot or in a cell. -/
inductive RVs (P : Program) (e : Env) (L : Heap) : List ResultVar → List Value → Prop
  | nil : RVs P e L [] []
  | tmp {t : Tmp} {v : Value} {rvs : List ResultVar} {vs : List Value} (h : e t = v) (k : RVs P e L rvs vs) : RVs P e L (.tmp t :: rvs) (v :: vs)
  | cell {t : Tmp} {T : TypeId} [Sc P T] {b : Nat} {T' : TypeId} {v : Value} {R : Heap} {rvs : List ResultVar} {vs : List Value} (h : e t = .pointer (some ⟨b, 0, none⟩)) (hs : Sel L (blk b T' [v]) R) (k : RVs P e L rvs vs) : RVs P e L (.cell t T :: rvs) (v :: vs)
  | agg {t : Tmp} {T : TypeId} {n : Nat} [Ag P T n] {b : Nat} {T' : TypeId} {xs : List Value} {R : Heap} {rvs : List ResultVar} {vs : List Value} (h : e t = .pointer (some ⟨b, 0, none⟩)) (hs : Sel L (blk b T' xs) R) (hn : xs.length = n) (k : RVs P e L rvs vs) : RVs P e L (.cell t T :: rvs) (.agg xs.toArray :: vs)
theorem retV_list {P : Program} {fn : Func} {e : Env} {L : Heap} {rvs : List ResultVar} {vs : List Value} {v : Value} (h : fn.results = rvs.toArray) (hf : RVs P e L rvs vs) (hv : tupV vs = v) : RetV P fn e L v := by
  intro m D a w ha hw
  have key : ∀ (F : ResultVar → Sem Value), (∀ t, F (.tmp t) = pure (a.tmps.getD t undef)) → (∀ t T, F (.cell t T) = (do loadVar T (← asAddr (a.tmps.getD t undef)))) → (List.mapM F rvs).run P w = .ok vs w := by
    clear h hv
    intro F hF1 hF2
    induction hf with
    | nil => simp
    | @tmp t v rvs vs h k ih =>
      have := ha.val t
      simp only [List.mapM_cons, hF1, Sem.run_bind, Sem.run_pure, Result.andThen_ok, this, h]
      rw [ih]; simp
    | @cell t T _ b T' v R rvs vs h hs k ih =>
      have := ha.val t
      have hb : w.heap[b]? = some (.cells [v].toArray T' (0, 0)) := hw _ hs.mem
      simp only [List.mapM_cons, hF2, Sem.run_bind, Sem.run_pure, Result.andThen_ok, this, h, asAddr, loadVar, run_isAgg_sc, Bool.false_eq_true, if_false]
      rw [run_loadB (by rw [cell_blk hb]; rfl)]
      simp only [Result.andThen_ok]
      rw [ih]; simp
    | @agg t T n _ b T' xs R rvs vs h hs hn k ih =>
      have := ha.val t
      have hb : w.heap[b]? = some (.cells xs.toArray T' (0, 0)) := hw _ hs.mem
      simp only [List.mapM_cons, hF2, Sem.run_bind, Sem.run_pure, Result.andThen_ok, this, h, asAddr]
      rw [run_loadVar_ag xs hn (fun k v hk => by rw [Nat.zero_add, cell_blk hb]; exact hk)]
      simp only [Result.andThen_ok]
      rw [ih]; simp
  unfold results
  rw [h]
  simp only [List.mapM_toArray, Sem.run_bind, Sem.run_map]
  rw [key _ (fun _ => rfl) (fun _ _ => rfl), ← hv]
  simp only [Result.andThen_ok, Sem.run_pure]
  match vs with
  | [] => rfl
  | [t] => rfl
  | t :: u :: ts => rfl
/-! ### A stop between two pieces: what is wanted behind is said anew, once for all branches -/
section
variable {P : Program} {G : Cx} {Q : Po} {D : List Deferred} {e : Env} {L : Heap} {α : Type}
def nmQ (G : Cx) (S : α → List (Nat × Value)) (H : α → Heap) (V : α → Prop) (D : List Deferred) : Ko := fun D' e' L' => D' = D ∧ ∃ x, Fx e' (S x) ∧ V x ∧ ∀ w, Tr G.w0 G.A0 w L' → Tr G.w0 G.A0 w (H x)
theorem nm_end {S : α → List (Nat × Value)} {H : α → Heap} {V : α → Prop} (x : α) (hf : Fx e (S x)) (hv : V x) (hl : ∀ w, Tr G.w0 G.A0 w L → Tr G.w0 G.A0 w (H x)) : nmQ G S H V D D e L := ⟨rfl, x, hf, hv, hl⟩
theorem cw_norm {x y : Code} {Q' : Po} (S : α → List (Nat × Value)) (H : α → Heap) (V : α → Prop) (h : CW P G x (thenQ (nmQ G S H V D) Q') D e L) (k : ∀ x e', V x → CW P G y Q D (upds e' (S x)) (H x)) : CW P G x (thenQ (CW P G y Q) Q') D e L :=
  h.mono (by
    intro z D' e' L' h0 h1
    cases z with
    | normal =>
      unfold thenQ at h1 ⊢
      obtain ⟨rfl, x, hf, hv, hl⟩ := h1
      have h := k x e' hv
      rw [← upds_self hf] at h
      exact h.heap hl
    | exit i => unfold thenQ at h1 ⊢; exact h1
    | goto l => unfold thenQ at h1 ⊢; exact h1
    | ret => unfold thenQ at h1 ⊢; exact h1
    | panic c => exact h0.elim
    | outgrown => exact h0.elim)
theorem cw_env {c : Code} (S : List (Nat × Value)) (hf : Fx e S) (h : ∀ e', CW P G c Q D (upds e' S) L) : CW P G c Q D e L := by
  rw [upds_self hf]; exact h e
theorem isCondT {t : Tmp} {x y : Code} (h : CW P G (.cond (.tmp t) x y) Q D e L) : CW P G (.cond (.tmp t) x y) Q D e L := h
theorem isSeqR {id : Nat} {ops : Array Oper} {dr : Bool} (h : CW P G (.region id ops dr) Q D e L) : CW P G (.region id ops dr) Q D e L := h
end
attribute [irreducible] rndQ asgQ retQM nmQ
end Go.Proofs.Ytomaldjedncjoaa.E
