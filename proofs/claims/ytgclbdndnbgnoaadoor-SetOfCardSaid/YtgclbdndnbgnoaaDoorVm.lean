/- Loops without a number; results in cells; words of the plain functions. -/
import Derived.Test.YtgclbdndnbgnoaaDoorVl
namespace Go.AV
set_option linter.all false
open Go.RowKit (Below)
variable {P : Program} {N : Nat} {env : Env} {o : Oper} {H : HH} {ops : Array Oper} {l : List Oper} {K : Env → HH → Prop} {Q : Exit → Env → HH → Prop}

/-- A loop that has come round. -/
def VL (P : Program) (N : Nat) (c : Code) (Q : Exit → Env → HH → Prop) (env : Env) (H : HH) : Prop :=
  ∀ C S w a, Rel C S w → Sat S H → EnvOK C w N env a → ∀ b k cs, ∃ e a' w', Post C S w H N Q e a' w' ∧ Arrives P (lone (b.at a (.inLoop c :: k)) cs w) b k cs e a' w'

theorem loop_key {c : Code} (h : VW P N c (thenQ (VL P N c Q) Q) env H) {C : Ctx} {S : AS} {w : World} {a : Act} (r : Rel C S w) (s : Sat S H) (ok : EnvOK C w N env a) (b : Frame) (k : List Item) (cs : List Frame) :
    ∃ e a' w', Post C S w H N Q e a' w' ∧ Arrives P (lone (b.at a (.code c :: .inLoop c :: k)) cs w) b k cs e a' w' := by
  obtain ⟨e, a1, w1, ⟨C1, S1, env1, H1, st, ok1, q⟩, harr⟩ := h C S w a r s ok b (.inLoop c :: k) cs
  cases e with
  | normal =>
    obtain ⟨e2, a2, w2, hp, harr2⟩ := q C1 S1 w1 a1 st.rel st.sat ok1 b k cs
    exact ⟨e2, a2, w2, Post.trans r st hp, .of_steps harr harr2⟩
  | exit id => exact ⟨_, a1, w1, ⟨C1, S1, env1, H1, st, ok1, q⟩, .pass (x := .inLoop c) rfl (fun _ _ => .inl (by simp)) harr⟩
  | goto l => exact ⟨_, a1, w1, ⟨C1, S1, env1, H1, st, ok1, q⟩, .pass (x := .inLoop c) rfl (fun _ _ => .inl (by simp)) harr⟩
  | ret => exact ⟨_, a1, w1, ⟨C1, S1, env1, H1, st, ok1, q⟩, .pass (x := .inLoop c) rfl (fun _ _ => .inl (by simp)) harr⟩
  | panic ch => exact ⟨_, a1, w1, ⟨C1, S1, env1, H1, st, ok1, q⟩, .pass (x := .inLoop c) rfl (fun _ _ => .inl (by simp)) harr⟩
  | outgrown => exact ⟨_, a1, w1, ⟨C1, S1, env1, H1, st, ok1, q⟩, .pass (x := .inLoop c) rfl (fun _ _ => .inl (by simp)) harr⟩

theorem VL.round {c : Code} (h : VW P N c (thenQ (VL P N c Q) Q) env H) : VL P N c Q env H := fun C S w a r s ok b k cs => by
  obtain ⟨e, a', w', h1, h2⟩ := loop_key h r s ok b k cs
  exact ⟨e, a', w', h1, .of_steps (.one step_inLoop) h2⟩
theorem VW.loopL {c : Code} (h : VW P N c (thenQ (VL P N c Q) Q) env H) : VW P N (.loop c) Q env H := fun C S w a r s ok b k cs => by
  obtain ⟨e, a', w', h1, h2⟩ := loop_key h r s ok b k cs
  exact ⟨e, a', w', h1, .of_steps (.one step_loop) h2⟩

theorem VL.subW {c : Code} {t' : List (Nat × VV)} {ds : List (FuncId × List VV)} (hs : AV.subW t' env.t) (hd : env.ds = ds) (h : VL P N c Q ⟨t', ds⟩ H) : VL P N c Q env H :=
  fun C S w a r s k => by subst hd; exact h C S w a r s (k.subW hs)
theorem VL.hsub {c : Code} {A : HH} (h : A.Sub H) (k : VL P N c Q env A) : VL P N c Q env H :=
  fun C S w a r s ok b k' cs => let ⟨e, a', w', ⟨C', S', env', H', st, ok', q⟩, h2⟩ := k C S w a r (s.sub h) ok b k' cs; ⟨e, a', w', ⟨C', S', env', H', st.from h, ok', q⟩, h2⟩
theorem VL.eqv {c : Code} {A : HH} (h : A.Eqv H) (k : VL P N c Q env A) : VL P N c Q env H :=
  fun C S w a r s ok b k' cs => let ⟨e, a', w', ⟨C', S', env', H', st, ok', q⟩, h2⟩ := k C S w a r (s.eqv h) ok b k' cs; ⟨e, a', w', ⟨C', S', env', H', st.eqvL h, ok', q⟩, h2⟩

theorem obind {α β : Type} {x : Option α} {f : α → Option β} {b : β} (h : (x >>= f) = some b) : ∃ a, x = some a ∧ f a = some b := bind_some h

/-- What a condition decides, in the plain function. -/
theorem iteT {α : Type} {c : Bool} {x y : Option α} {b : α} (h : (if c then x else y) = some b) (hc : c = true) : x = some b := by subst hc; exact h
theorem iteF {α : Type} {c : Bool} {x y : Option α} {b : α} (h : (if c then x else y) = some b) (hc : c = false) : y = some b := by subst hc; exact h

/-- Exits of a loop or a block that are not met. -/
theorem VW.caseB {c : Code} {d : Nat} {b : Bool} (h : lk env.t d = some (.bool b)) (ht : b = true → VW P N c Q ⟨(d, .bool true) :: env.t, env.ds⟩ H) (hf : b = false → VW P N c Q ⟨(d, .bool false) :: env.t, env.ds⟩ H) : VW P N c Q env H := by
  cases b with
  | true => exact VW.weak h (VLe.refl _) (ht rfl)
  | false => exact VW.weak h (VLe.refl _) (hf rfl)

/-- A function whose result stands in a cell. -/
theorem VCalls.of_cell {f : FuncId} {fn : Func} {c : Code} {args : List VV} {R : VV → HH → Prop} (N t T : Nat) (hf : P.funcs[f]? = some fn) (hb : fn.body = some c)
    (hts : fn.results = #[.cell t T]) (hN : fn.ntmps = N) (hn : args.length ≤ N)
    (h : VW P N c (fun e env' H' => (e = .normal ∨ e = .ret) ∧ env'.ds = [] ∧ ∃ (ob off i : Nat) (cs : List VV) (n : Nat) (agg : Bool) (v v2 : VV) (A : HH), lk env'.t t = some (.ptr ob off) ∧ H'.objs[i]? = some (ob, .cells cs) ∧ SizeTy P T n agg ∧ ofCells agg n (cs.drop off) = some v ∧ VLe v v2 ∧ HH.Sub A H' ∧ R v2 A) ⟨enumFrom 0 args, []⟩ H) : VCalls P f args H R := by
  subst hN
  intro C S w ra r s ha
  obtain ⟨hl, hg⟩ := ha.get
  refine calls_of_wp hf hb ?_
  refine wp_mono (h C S w _ r s ⟨?_, fun k v hv => ?_, rfl⟩) ?_
  · simp only [Array.size_append, Array.size_replicate, List.size_toArray]; omega
  · obtain ⟨h1, h2⟩ := lk_enumFrom args 0 k v hv
    obtain ⟨rv, h3, h4⟩ := hg k v (by simpa using h2)
    refine ⟨rv, ?_, h4⟩
    have hk : k < ra.length := by
      rcases Nat.lt_or_ge k ra.length with hk | hk
      · exact hk
      · rw [List.getElem?_eq_none hk] at h3; cases h3
    rw [Array.getElem?_append_left (by simpa using hk)]
    simpa using h3
  · intro e a' w' ⟨C', S', env', H', st, ok, he, hds, ob, off, i, cs, n, agg, v, v', A, h1, h2, h3, h4, h5, h6, h7⟩
    obtain ⟨hlt, hp⟩ : Rep C' w' (.ptr ob off) (a'.tmps.getD t undef) := ok.getD h1
    obtain ⟨_, _, rs, E, g1, g2⟩ := st.rel.objs ob _ (st.sat.obj h2)
    have g3 := g2.drop off
    obtain ⟨rv, k1, k2⟩ := run_load_cells (P := P) (b := C'.σ ob) (off := off) h3 g3 (fun j r hj => by
      rw [List.getElem?_drop] at hj
      simp only [World.cell?, g1]
      simpa using hj) h4
    have hr : (results fn a'.tmps).run P w' = .ok rv w' := by
      have hp2 : a'.tmps[t]?.getD undef = .pointer (some ⟨C'.σ ob, off, none⟩) := by simpa [Array.getD_eq_getD_getElem?] using hp
      simp [results, hts, hp2, asAddr, k1]
    have hd : a'.defers = [] := by
      have := ok.ds
      rw [hds] at this
      exact this
    have : a'.defers = [] ∧ ∃ v, (results fn a'.tmps).run P w' = .ok v w' ∧ ∃ v1 rv C' S' H', Ending.returned v = .returned rv ∧ Step C S w H C' S' w' H' ∧ Rep C' w' v1 rv ∧ R v1 H' :=
      ⟨hd, rv, hr, v', rv, C', S', A, rfl, st.sub h6, h5 _ _ _ k2, h7⟩
    rcases he with rfl | rfl
    · exact this
    · exact this

theorem VO.subN {t' : List (Nat × VV)} (hs : AV.subW t' env.t) (hd : env.ds = []) (h : VO P N ops l K ⟨t', []⟩ H) : VO P N ops l K env H :=
  fun C S w a r s k => by
    have := VO.subW (ops := ops) (l := l) (K := K) (P := P) (N := N) (H := H) hs (by rw [hd]; exact h)
    exact this C S w a r s k
theorem VW.subN {c : Code} {t' : List (Nat × VV)} (hs : AV.subW t' env.t) (hd : env.ds = []) (h : VW P N c Q ⟨t', []⟩ H) : VW P N c Q env H := VW.subW hs hd h
theorem VW.joinQ {x y : Code} {E : Type} (I : E → Prop) (env' : E → Env) (H' : E → HH) (J : ∀ e, I e → VW P N y Q (env' e) (H' e)) (h : (∀ e, I e → VW P N y Q (env' e) (H' e)) → VW P N x (thenQ (VW P N y Q) Q) env H) : VW P N x (thenQ (VW P N y Q) Q) env H := h J
theorem hq_frontT {sg : List Seg} {tks : List Tok} {b : Tok} (i : Nat) (hi : tks[i]? = some b) : (hq sg (b :: tks.eraseIdx i)).Eqv (hq sg tks) := ⟨.refl _, by
  have : ∀ (tks : List Tok) (i : Nat), tks[i]? = some b → (b.toks ++ toksOf (tks.eraseIdx i)).Perm (toksOf tks) := by
    intro tks
    induction tks with
    | nil => intro i h; simp at h
    | cons t ts ih =>
      intro i h
      cases i with
      | zero => simp at h; subst h; exact .refl _
      | succ i =>
        have := ih i (by simpa using h)
        rw [List.eraseIdx_cons_succ]
        simp only [toksOf]
        refine List.Perm.trans ?_ (List.Perm.append_left t.toks this)
        rw [← List.append_assoc, ← List.append_assoc]
        exact List.Perm.append_right _ List.perm_append_comm
  exact this tks i hi⟩
theorem VW.frontS {c : Code} {sg : List Seg} {tks : List Tok} {b : Seg} (i : Nat) (hi : sg[i]? = some b) (k : VW P N c Q env (hq (b :: sg.eraseIdx i) tks)) : VW P N c Q env (hq sg tks) := k.eqv (hq_front i hi)
theorem VW.frontT {c : Code} {sg : List Seg} {tks : List Tok} {b : Tok} (i : Nat) (hi : tks[i]? = some b) (k : VW P N c Q env (hq sg (b :: tks.eraseIdx i))) : VW P N c Q env (hq sg tks) := k.eqv (hq_frontT i hi)
theorem VO.frontT {sg : List Seg} {tks : List Tok} {b : Tok} (i : Nat) (hi : tks[i]? = some b) (k : VO P N ops l K env (hq sg (b :: tks.eraseIdx i))) : VO P N ops l K env (hq sg tks) := k.eqv (hq_frontT i hi)

/-! ### Several that may come up -/
/-- This one comes up. -/
def VA1 (P : Program) (N : Nat) (ops : Array Oper) (K : Env → HH → Prop) (fuel : Nat) (listed : Array Bool) (i : Nat) (env : Env) (H : HH) : Prop :=
  ∀ C S w a, Rel C S w → Sat S H → EnvOK C w N env a →
    wpOp P ops (fun e a' w' => e = .normal ∧ ∃ C' S' env' H', Step C S w H C' S' w' H' ∧ EnvOK C' w' N env' a' ∧ K env' H') i (fun a' w' => wpAny P .any ops (fun e a' w' => e = .normal ∧ ∃ C' S' env' H', Step C S w H C' S' w' H' ∧ EnvOK C' w' N env' a' ∧ K env' H') fuel (listed.setIfInBounds i true) a' w') a w

theorem wpAny_mono : ∀ (fuel : Nat) (listed : Array Bool) (a : Act) (w : World) (Q Q' : Exit → Act → World → Prop), (∀ e a w, Q e a w → Q' e a w) → wpAny P .any ops Q fuel listed a w → wpAny P .any ops Q' fuel listed a w := by
  intro fuel
  induction fuel with
  | zero => exact fun listed a w Q Q' hq h => ⟨h.1, hq _ _ _ h.2⟩
  | succ fuel ih =>
    intro listed a w Q Q' hq h
    refine ⟨fun h0 => hq _ _ _ (h.1 h0), fun i hi => ?_⟩
    have h2 := h.2 i hi
    unfold wpOp at h2 ⊢
    split
    · rename_i ho; simp only [ho] at h2; exact ih _ _ _ _ _ hq h2
    · rename_i o ho
      simp only [ho] at h2
      split
      · rename_i hw
        rw [if_pos hw] at h2
        refine h2.imp (fun h => ?_) (fun ⟨h1, a0, w0, h2⟩ => ⟨h1, a0, w0, hq _ _ _ h2⟩)
        unfold Oper.wp at h ⊢
        generalize (execOp a.eval o).run P w = rr at h
        cases rr with
        | ok n w' =>
          cases n <;> simp only [Oper.upon] at h ⊢ <;>
            first
              | exact ih _ _ _ _ _ hq h
              | exact Calls.mono h (fun e w'' he => by cases e <;> first | exact ih _ _ _ _ _ hq he | exact hq _ _ _ he | exact he.imp fun _ ⟨w0, h2⟩ => ⟨w0, hq _ _ _ h2⟩)
              | exact Rows.mono h (fun _ _ he => ih _ _ _ _ _ hq he)
        | halt x w' => cases x <;> simp only [Oper.upon] at h ⊢ <;> exact hq _ _ _ h
      · rename_i hw
        rw [if_neg hw] at h2
        exact ih _ _ _ _ _ hq h2

theorem VA1.w {i : Nat} {o : Oper} {fuel : Nat} {listed : Array Bool} (K1 : VV → HH → Prop) (hi : ops[i]? = some o) (h : WOp P o env H K1) (hg : (o.guard = none) ∨ ∃ j d b, o.guard = some (j, b) ∧ (ops[j]?).bind (·.dst) = some d ∧ lk env.t d = some (.bool b))
    (hd : dstOK o N = true) (hn : ∀ v H', K1 v H' → VA P N ops K fuel (listed.setIfInBounds i true) (env.put o.dst v) H') : VA1 P N ops K fuel listed i env H := by
  intro C S w a r s k
  unfold wpOp
  simp only [hi]
  rw [if_pos (wanted_of k hg)]
  refine .inl (h C S w N a r s k _ _ fun rv w' C' S' H' v st rp q => ?_)
  exact wpAny_mono _ _ _ _ _ _ (fun e a w ⟨e1, C2, S2, env2, H2, st2, ok2, q2⟩ => ⟨e1, C2, S2, env2, H2, st.trans r st2, ok2, q2⟩) (hn v H' q C' S' w' (a.put o.dst rv) st.rel st.sat ((k.mono st.ext).put (dstOK.spec hd) rp))
theorem VA1.r {i : Nat} {o : Oper} {v : VV} {fuel : Nat} {listed : Array Bool} (hi : ops[i]? = some o) (h : ROp P o env H v) (hg : (o.guard = none) ∨ ∃ j d b, o.guard = some (j, b) ∧ (ops[j]?).bind (·.dst) = some d ∧ lk env.t d = some (.bool b))
    (hd : dstOK o N = true) (hn : VA P N ops K fuel (listed.setIfInBounds i true) (env.put o.dst v) H) : VA1 P N ops K fuel listed i env H :=
  VA1.w (fun v' H' => v' = v ∧ H' = H) hi (h.w ⟨rfl, rfl⟩) hg hd (fun _ _ ⟨e1, e2⟩ => by subst e1; subst e2; exact hn)
def allV (f : Nat → Prop) : List Nat → Prop
  | [] => True
  | i :: l => f i ∧ allV f l
theorem VA.alt {fuel : Nat} {listed : Array Bool} (l : List Nat) (hr : Region.ready .any ops listed = l) (hne : l.isEmpty = false) (h : allV (fun i => VA1 P N ops K fuel listed i env H) l) : VA P N ops K (fuel + 1) listed env H := by
  intro C S w a r s k
  refine wpAny_all hr (by intro e; subst e; cases hne) fun i hi => ?_
  have : ∀ (l : List Nat), allV (fun i => VA1 P N ops K fuel listed i env H) l → ∀ i ∈ l, VA1 P N ops K fuel listed i env H := by
    intro l
    induction l with
    | nil => intro _ i hi; cases hi
    | cons x l ih =>
      intro h i hi
      rcases List.mem_cons.1 hi with rfl | hi
      · exact h.1
      · exact ih h.2 i hi
  exact this l h i hi C S w a r s k

theorem VA.eqv {A : HH} {fuel : Nat} {listed : Array Bool} (h : A.Eqv H) (k : VA P N ops K fuel listed env A) : VA P N ops K fuel listed env H := fun C S w a r s ok =>
  wpAny_mono _ _ _ _ _ _ (fun _ _ _ ⟨e1, C', S', env', H', st, ok', q⟩ => ⟨e1, C', S', env', H', st.eqvL h, ok', q⟩) (k C S w a r (s.eqv h) ok)
theorem VA.hsub {A : HH} {fuel : Nat} {listed : Array Bool} (h : A.Sub H) (k : VA P N ops K fuel listed env A) : VA P N ops K fuel listed env H := fun C S w a r s ok =>
  wpAny_mono _ _ _ _ _ _ (fun _ _ _ ⟨e1, C', S', env', H', st, ok', q⟩ => ⟨e1, C', S', env', H', st.from h, ok', q⟩) (k C S w a r (s.sub h) ok)
theorem VA.frontS {fuel : Nat} {listed : Array Bool} {sg : List Seg} {tks : List Tok} {b : Seg} (i : Nat) (hi : sg[i]? = some b) (k : VA P N ops K fuel listed env (hq (b :: sg.eraseIdx i) tks)) : VA P N ops K fuel listed env (hq sg tks) := k.eqv (hq_front i hi)
theorem VA.frontT {fuel : Nat} {listed : Array Bool} {sg : List Seg} {tks : List Tok} {b : Tok} (i : Nat) (hi : tks[i]? = some b) (k : VA P N ops K fuel listed env (hq sg (b :: tks.eraseIdx i))) : VA P N ops K fuel listed env (hq sg tks) := k.eqv (hq_frontT i hi)
theorem VA.subN {fuel : Nat} {listed : Array Bool} {t' : List (Nat × VV)} (hs : AV.subW t' env.t) (hd : env.ds = []) (h : VA P N ops K fuel listed ⟨t', []⟩ H) : VA P N ops K fuel listed env H := VA.subW hs (by rw [hd]; exact h)

theorem wpOp_mono' {i : Nat} {K1 K2 : Act → World → Prop} {a : Act} {w : World} {Q Q' : Exit → Act → World → Prop} (hq : ∀ e a w, Q e a w → Q' e a w) (hk : ∀ a w, K1 a w → K2 a w) (h2 : wpOp P ops Q i K1 a w) : wpOp P ops Q' i K2 a w := by
  unfold wpOp at h2 ⊢
  split
  · rename_i ho; simp only [ho] at h2; exact hk _ _ h2
  · rename_i o ho
    simp only [ho] at h2
    split
    · rename_i hw
      rw [if_pos hw] at h2
      refine h2.imp (fun h => ?_) (fun ⟨h1, a0, w0, h2⟩ => ⟨h1, a0, w0, hq _ _ _ h2⟩)
      unfold Oper.wp at h ⊢
      generalize (execOp a.eval o).run P w = rr at h
      cases rr with
      | ok n w' =>
        cases n <;> simp only [Oper.upon] at h ⊢ <;>
          first
            | exact hk _ _ h
            | exact Calls.mono h (fun e w'' he => by cases e <;> first | exact hk _ _ he | exact hq _ _ _ he | exact he.imp fun _ ⟨w0, h2⟩ => ⟨w0, hq _ _ _ h2⟩)
            | exact Rows.mono h (fun _ _ he => hk _ _ he)
      | halt x w' => cases x <;> simp only [Oper.upon] at h ⊢ <;> exact hq _ _ _ h
    · rename_i hw
      rw [if_neg hw] at h2
      exact hk _ _ h2
theorem VA1.weak {fuel : Nat} {listed : Array Bool} {i : Nat} {d : Nat} {v v' : VV} (h : lk env.t d = some v) (hv : VLe v v') (k : VA1 P N ops K fuel listed i ⟨(d, v') :: env.t, env.ds⟩ H) : VA1 P N ops K fuel listed i env H :=
  fun C S w a r s ok => k C S w a r s (ok.weak h hv)
theorem VA1.eqv {A : HH} {fuel : Nat} {listed : Array Bool} {i : Nat} (h : A.Eqv H) (k : VA1 P N ops K fuel listed i env A) : VA1 P N ops K fuel listed i env H := fun C S w a r s ok =>
  wpOp_mono' (fun _ _ _ ⟨e1, C', S', env', H', st, ok', q⟩ => ⟨e1, C', S', env', H', st.eqvL h, ok', q⟩) (fun _ _ hh => wpAny_mono _ _ _ _ _ _ (fun _ _ _ ⟨e1, C', S', env', H', st, ok', q⟩ => ⟨e1, C', S', env', H', st.eqvL h, ok', q⟩) hh) (k C S w a r (s.eqv h) ok)
theorem VA1.frontS {fuel : Nat} {listed : Array Bool} {i : Nat} {sg : List Seg} {tks : List Tok} {b : Seg} (j : Nat) (hi : sg[j]? = some b) (k : VA1 P N ops K fuel listed i env (hq (b :: sg.eraseIdx j) tks)) : VA1 P N ops K fuel listed i env (hq sg tks) := k.eqv (hq_front j hi)

/-! ### Equality of aggregates of numbers -/
/-- Arrays of two numbers. -/
structure AeqTy (P : Program) (t : Nat) : Prop where
  h : ∃ e k, P.underlying t = some (.array 2 e) ∧ P.underlying e = some (.int k) ∧ SizeTy P e 1 false
  g : P.eqGuardType P.depth t = false
theorem AeqTy.of {t e : Nat} {k : IntKind} (h1 : P.underlying t = some (.array 2 e)) (h2 : P.underlying e = some (.int k)) (h3 : SizeTy P e 1 false) (h4 : P.eqGuardType P.depth t = false) : AeqTy P t := ⟨⟨e, k, h1, h2, h3⟩, h4⟩
theorem run_equal_arr2 {t : Nat} (hT : AeqTy P t) (k : IntKind) (a b c d : Int) (w : World) : (Op.equal t (.agg #[.int k a, .int k b]) (.agg #[.int k c, .int k d])).run P w = .ok (a == c && b == d) w := by
  obtain ⟨e, ki, h1, h2, h3⟩ := hT.h
  have hs := fun w => run_sizeOf (P := P) h3.s w
  have ha := fun w => run_isAgg (P := P) h3 w
  show (Op.equalIn (9999 + 1) t _ _).run P w = _
  unfold Op.equalIn
  have hi : ∀ (x y : Int) (w : World), (Op.equalIn 9999 e (.int k x) (.int k y)).run P w = .ok (x == y) w := fun x y w => by
    show (Op.equalIn (9998 + 1) e _ _).run P w = _
    unfold Op.equalIn
    simp [underlying, h2, go_sem]
  simp only [underlying, h1, Sem.run_bind, hs, Result.andThen_ok]
  simp [go_sem, h1, part, ha, hs, hi, Std.Legacy.Range.forIn_eq_forIn_range', Std.Legacy.Range.size, List.range']
  cases hac : (a == c) <;> cases hbd : (b == d) <;> simp_all [go_sem]

theorem t_aeq {xt yt : TypeId} {x y : Operand} {k : IntKind} {a b c d : Int} {r : Bool} (ho : o.op = .binOp .eql xt x y yt) (hT : AeqTy P xt) (hx : EvO env x (.agg [.int k a, .int k b])) (hy : EvO env y (.agg [.int k c, .int k d])) (hr : (a == c && b == d) = r) : TOp P o env (.bool r) := by
  intro C w N ac ok
  obtain ⟨_, h1, _, _, e1, g1, _, _, e2, g2, e3⟩ : Rep C w (.agg [.int k a, .int k b]) (ac.eval x) := hx.rep ok
  obtain ⟨_, h2, _, _, f1, k1, _, _, f2, k2, f3⟩ : Rep C w (.agg [.int k c, .int k d]) (ac.eval y) := hy.rep ok
  simp only [Rep] at g1 g2 k1 k2
  subst e3; subst e2; subst e1; subst g1; subst g2; subst f3; subst f2; subst f1; subst k1; subst k2
  generalize ac.eval = ρ at *
  refine ⟨.bool r, fun w' => ?_, rfl⟩
  subst hr
  have := run_equal_arr2 hT k a b c d
  have hg := hT.g
  simp [execOp, ho, go_sem, h1, h2, eqGuard, binOp, this, hg]
theorem t_ane {xt yt : TypeId} {x y : Operand} {k : IntKind} {a b c d : Int} {r : Bool} (ho : o.op = .binOp .neq xt x y yt) (hT : AeqTy P xt) (hx : EvO env x (.agg [.int k a, .int k b])) (hy : EvO env y (.agg [.int k c, .int k d])) (hr : (!(a == c && b == d)) = r) : TOp P o env (.bool r) := by
  intro C w N ac ok
  obtain ⟨_, h1, _, _, e1, g1, _, _, e2, g2, e3⟩ : Rep C w (.agg [.int k a, .int k b]) (ac.eval x) := hx.rep ok
  obtain ⟨_, h2, _, _, f1, k1, _, _, f2, k2, f3⟩ : Rep C w (.agg [.int k c, .int k d]) (ac.eval y) := hy.rep ok
  simp only [Rep] at g1 g2 k1 k2
  subst e3; subst e2; subst e1; subst g1; subst g2; subst f3; subst f2; subst f1; subst k1; subst k2
  generalize ac.eval = ρ at *
  refine ⟨.bool r, fun w' => ?_, rfl⟩
  subst hr
  have := run_equal_arr2 hT k a b c d
  have hg := hT.g
  simp [execOp, ho, go_sem, h1, h2, eqGuard, binOp, this, hg]

/-! ### Words of the printed walks -/
/-- The code at a place. -/
def codeAt : List Nat → Code → Code
  | [], c => c
  | 0 :: p, .seq x _ => codeAt p x
  | _ :: p, .seq _ y => codeAt p y
  | 0 :: p, .cond _ x _ => codeAt p x
  | _ :: p, .cond _ _ y => codeAt p y
  | _ :: p, .block _ c => codeAt p c
  | _ :: p, .loop c => codeAt p c
  | _, _ => .skip
def bodyOf (f : Func) : Code := f.body.getD .skip

def cInt (k : IntKind) (x : Int) : List VV := [.int k x]
def cBool (x : Bool) : List VV := [.bool x]
def cRaw (x : List VV) : List VV := x
def cStr (x : ByteArray) : List VV := [.str x]
def cSl {α : Type} (c : α → List VV) (x : List α) : List VV := [.sl .fz (x.map c)]
theorem cInt_ok (k : IntKind) (x : Int) : (cInt k x).length = 1 ∧ (cInt k x).all isScalar = true := ⟨rfl, rfl⟩
theorem cBool_ok (x : Bool) : (cBool x).length = 1 ∧ (cBool x).all isScalar = true := ⟨rfl, rfl⟩
theorem cStr_ok (x : ByteArray) : (cStr x).length = 1 ∧ (cStr x).all isScalar = true := ⟨rfl, rfl⟩
theorem cSl_ok {α : Type} (c : α → List VV) (x : List α) : (cSl c x).length = 1 ∧ (cSl c x).all isScalar = true := ⟨rfl, rfl⟩

theorem getI_lt {α : Type} {l : List α} {i : Int} {x : α} (h : getI l i = some x) : i < (l.length : Int) := by
  obtain ⟨h0, h1⟩ := getI_some h
  have := (List.getElem?_eq_some_iff.1 h1).1
  omega
theorem buf_at {α : Type} {c : α → List VV} {n : Nat} {xs : List α} {v : VV} {b : Seg} {i : Int} {x : α} (h : Buf n (xs.map c) v b) (hx : getI xs i = some x) :
    ∃ ob cap len sl, v = .own ob cap len ∧ b = [(ob, .cells ((xs.map c).flatten ++ sl))] ∧ elemsOK n (xs.map c) ∧ len = xs.length ∧ len ≤ cap ∧ sl.length = (cap - len) * n := by
  have hl := getI_lt hx
  have h0 := (getI_some hx).1
  obtain ⟨ob, cap, len, sl, h1, h2, h3, h4, h5, h6⟩ := h.some (by rw [List.length_map]; omega)
  exact ⟨ob, cap, len, sl, h1, h2, h3, by simpa using h4, h5, h6⟩
theorem buf_own {α : Type} {c : α → List VV} {n : Nat} {xs : List α} {ob cap len : Nat} {b : Seg} (h : Buf n (xs.map c) (.own ob cap len) b) :
    ∃ sl, b = [(ob, .cells ((xs.map c).flatten ++ sl))] ∧ elemsOK n (xs.map c) ∧ len = xs.length ∧ len ≤ cap ∧ sl.length = (cap - len) * n := by
  cases h with
  | own _ _ _ sl h1 h2 h3 h4 => exact ⟨sl, rfl, h1, by simpa using h2, h3, h4⟩
theorem ofCells_agg {n : Nat} {cs rest : List VV} (h : cs.length = n) : ofCells true n (cs ++ rest) = some (.agg cs) := by
  unfold ofCells
  rw [if_pos rfl, if_pos (by rw [List.length_append]; omega), ← h, List.take_left]
theorem map_set {α : Type} {c : α → List VV} {xs : List α} {i : Nat} {y : α} {cs : List VV} (h : c y = cs) : (xs.map c).set i cs = (xs.set i y).map c := by
  rw [← h, List.map_set]

theorem r_load_buf {t k n : Nat} {agg : Bool} {x : Operand} {ob i f j : Nat} {l : List (List VV)} {c sl : List VV} {v : VV} {sg : List Seg} {tks : List Tok} (ho : o.op = .load t x) (hs : SizeTy P t k agg) (hx : EvO env x (.ptr ob (i * n + f))) (hH : sg[j]? = some [(ob, .cells (l.flatten ++ sl))]) (hE : elemsOK n l) (hi : l[i]? = some c)
    (hf : f ≤ n) (hv : ∀ rest, ofCells agg k (c.drop f ++ rest) = some v) : ROp P o env (hq sg tks) v :=
  r_load_q ho hs hx hH (by rw [drop_elem hE hi hf]; exact hv _)

theorem w_store_buf {T k n : Nat} {agg : Bool} {x y : Operand} {ob i f j : Nat} {l l' : List (List VV)} {c c' sl : List VV} {v : VV} {K : VV → HH → Prop} {sg : List Seg} {tks : List Tok} (ho : o.op = .store T x y) (hT : SizeTy P T k agg) (hx : EvO env x (.ptr ob (i * n + f))) (hy : EvO env y v)
    (hH : sg[j]? = some [(ob, .cells (l.flatten ++ sl))]) (hE : elemsOK n l) (hi : l[i]? = some c) (hs : okCells v = true) (hn : (cellsOf v).length = k) (hf : f + k ≤ n) (hc : splice c f (cellsOf v) = c') (hl : l.set i c' = l') (hK : K .any (hq (sg.set j [(ob, .cells (l'.flatten ++ sl))]) tks)) : WOp P o env (hq sg tks) K := by
  have h1 := splice_elem (sl := sl) (f := f) (new := cellsOf v) hE hi (by omega)
  refine w_store_q ho hT hx hy hH hs hn ?_ (by rw [h1, hc, hl]; exact hK)
  have := (elems_flat hE).1
  have hlt := (List.getElem?_eq_some_iff.1 hi).1
  have : (i + 1) * n ≤ l.length * n := Nat.mul_le_mul_right _ hlt
  rw [Nat.succ_mul] at this
  rw [List.length_append]
  omega

theorem VW.seqJ {x y : Code} {E : Type} (I : E → Prop) (env' : E → Env) (H' : E → HH) (J : ∀ e, I e → VW P N y Q (env' e) (H' e)) (h : (∀ e, I e → VW P N y Q (env' e) (H' e)) → VW P N x (thenQ (VW P N y Q) Q) env H) : VW P N (.seq x y) Q env H := VW.seq (h J)

end Go.AV
