/- Regions that draw their order. -/
import Derived.Test.YtgclbdndnbgnoaaDoorVi
import Derived.Still
namespace Go.AV
set_option linter.all false
open Go.RowKit (Below)
variable {P : Program} {N : Nat} {env : Env} {H : HH} {ops : Array Oper} {K : Env → HH → Prop}

/-- Whatever order is picked from here on. -/
def VA (P : Program) (N : Nat) (ops : Array Oper) (K : Env → HH → Prop) (fuel : Nat) (listed : Array Bool) (env : Env) (H : HH) : Prop :=
  ∀ C S w a, Rel C S w → Sat S H → EnvOK C w N env a →
    wpAny P .any ops (fun e a' w' => e = .normal ∧ ∃ C' S' env' H', Step C S w H C' S' w' H' ∧ EnvOK C' w' N env' a' ∧ K env' H') fuel listed a w

theorem Rel.drew {C : Ctx} {S : AS} {w : World} (h : Ext C w C w.drew) (r : Rel C S w) : Rel C S w.drew :=
  ⟨r.n, r.B, fun o c ho => let ⟨h1, h2, h3⟩ := r.objs o c ho; ⟨h1, h2, h3.mono h rfl⟩, r.inj, r.objK, r.Kin, r.tips, r.tipInj, r.live, fix_ext h r.fix⟩

theorem Ext.drew {C : Ctx} {w : World} : Ext C w C w.drew := ⟨rfl, (Below.refl _ _).drew, Nat.le_refl _, fun _ _ => rfl, fun _ _ h => h, fun _ _ _ => rfl, fun _ _ h => ⟨h, rfl⟩⟩

theorem Step.drew {C : Ctx} {S : AS} {w : World} (r : Rel C S w) (s : Sat S H) : Step C S w H C S w.drew H :=
  ⟨Ext.drew, r.drew Ext.drew, s, fun _ _ _ => rfl, fun _ _ _ => rfl, fun _ _ _ => rfl, fun _ h => .inl h, fun _ h => .inl h⟩

theorem VW.regionDraw {id : Nat} {l : List Oper} {Q : Exit → Env → HH → Prop} (hm : P.follows .mixedOrders = true) (h : VA P N l.toArray (fun env' H' => Q .normal env' H') l.length (Array.replicate l.length false) env H) : VW P N (.region id l.toArray true) Q env H :=
  fun C S w a r s k => by
    have st := Step.drew r s
    have := h C S w.drew a st.rel st.sat (k.mono st.ext)
    refine wp_mono (wp_region_any hm (by simpa using this)) fun e a' w' h => ?_
    obtain ⟨e1, C', S', env', H', st2, ok, q⟩ := h
    subst e1
    exact ⟨C', S', env', H', st.trans r st2, ok, q⟩

/-- All have come up. -/
theorem VA.done {listed : Array Bool} {fuel : Nat} (hr : Region.ready .any ops listed = []) (h : K env H) : VA P N ops K fuel listed env H :=
  fun C S _ _ r s k => wpAny_done hr ⟨rfl, C, S, env, H, .refl r s, k, h⟩ fuel

theorem VA.sub {t' : List (Nat × VV)} {fuel : Nat} {listed : Array Bool} (h : VA P N ops K fuel listed ⟨t', env.ds⟩ H) (hs : AV.sub t' env.t) : VA P N ops K fuel listed env H :=
  fun C S w a r s k => h C S w a r s (k.sub hs)

theorem wanted_of {C : Ctx} {w : World} {a : Act} (k : EnvOK C w N env a) {o : Oper} (hg : (o.guard = none) ∨ ∃ j d b, o.guard = some (j, b) ∧ (ops[j]?).bind (·.dst) = some d ∧ lk env.t d = some (.bool b)) : Region.wanted o (yielded ops a.tmps) = true := by
  rcases hg with hg | ⟨j, d, b, hg, hj, hb⟩
  · simp [Region.wanted, hg]
  · simp [Region.wanted, hg, yielded_of k hj hb]

/-- An operation that yields the same in whatever memory may be taken first. -/
theorem VA.t {i : Nat} {o : Oper} {v : VV} {fuel : Nat} {listed : Array Bool} (hi : ops[i]? = some o) (h : TOp P o env v) (hg : (o.guard = none) ∨ ∃ j d b, o.guard = some (j, b) ∧ (ops[j]?).bind (·.dst) = some d ∧ lk env.t d = some (.bool b))
    (hc : (Region.noSelect ops && Region.free .any ops listed i && (Region.ready .any ops listed).contains i && dstOK o N) = true)
    (hn : VA P N ops K fuel (listed.setIfInBounds i true) (env.put o.dst v) H) : VA P N ops K (fuel + 1) listed env H := by
  intro C S w a r s k
  simp only [Bool.and_eq_true] at hc
  obtain ⟨rv, h1, h2⟩ := h C w N a k
  refine wpAny_take (v := rv) hi hc.1.1.1 hc.1.1.2 hc.1.2 (fun c a w h => absurd h.1 (by simp)) (.inl ⟨wanted_of k hg, fun w' => h1 w'⟩) ?_
  exact hn C S w _ r s (k.put (dstOK.spec hc.2) h2)

theorem VA.skip {i j d : Nat} {b : Bool} {u : VV} {o : Oper} {fuel : Nat} {listed : Array Bool} (hi : ops[i]? = some o) (hg : o.guard = some (j, b)) (hj : (ops[j]?).bind (·.dst) = some d) (hb : lk env.t d = some u) (hne : notB b u = true)
    (hc : (Region.noSelect ops && Region.free .any ops listed i && (Region.ready .any ops listed).contains i && dstOK o N) = true)
    (hn : VA P N ops K fuel (listed.setIfInBounds i true) (env.put o.dst (.tup [])) H) : VA P N ops K (fuel + 1) listed env H := by
  intro C S w a r s k
  simp only [Bool.and_eq_true] at hc
  have hw : Region.wanted o (yielded ops a.tmps) = false := unwanted_of k hg hj hb hne
  refine wpAny_take (v := undef) hi hc.1.1.1 hc.1.1.2 hc.1.2 (fun c a w h => absurd h.1 (by simp)) (.inr ⟨hw, rfl⟩) ?_
  exact hn C S w _ r s (k.put (dstOK.spec hc.2) rep_undef)

/-- The only operation that may come up. -/
theorem VA.w {i : Nat} {o : Oper} {fuel : Nat} {listed : Array Bool} (K1 : VV → HH → Prop) (hi : ops[i]? = some o) (h : WOp P o env H K1) (hg : (o.guard = none) ∨ ∃ j d b, o.guard = some (j, b) ∧ (ops[j]?).bind (·.dst) = some d ∧ lk env.t d = some (.bool b))
    (hr : Region.ready .any ops listed = [i]) (hd : dstOK o N = true)
    (hn : ∀ v H', K1 v H' → VA P N ops K fuel (listed.setIfInBounds i true) (env.put o.dst v) H') : VA P N ops K (fuel + 1) listed env H := by
  intro C S w a r s k
  refine wpAny_all hr (by simp) fun j hj => ?_
  have hj : j = i := by simpa using hj
  subst hj
  unfold wpOp
  simp only [hi]
  rw [if_pos (wanted_of k hg)]
  refine .inl (h C S w N a r s k _ _ fun rv w' C' S' H' v st rp q => ?_)
  have hm : ∀ (fuel : Nat) (listed : Array Bool) (a : Act) (w : World) (Q Q' : Exit → Act → World → Prop), (∀ e a w, Q e a w → Q' e a w) → wpAny P .any ops Q fuel listed a w → wpAny P .any ops Q' fuel listed a w := by
    intro fuel
    induction fuel with
    | zero => exact fun listed a w Q Q' hq h => ⟨h.1, hq _ _ _ h.2⟩
    | succ fuel ih =>
      intro listed a w Q Q' hq h
      refine ⟨fun h0 => hq _ _ _ (h.1 h0), fun i hi => ?_⟩
      have h2 := h.2 i hi
      unfold wpOp at h2 ⊢
      split
      · rename_i ho; simp only [ho] at h2; exact ih _ _ _ _ _ hq h2
      · rename_i o ho
        simp only [ho] at h2
        split
        · rename_i hw
          rw [if_pos hw] at h2
          refine h2.imp (fun h => ?_) (fun ⟨h1, a0, w0, h2⟩ => ⟨h1, a0, w0, hq _ _ _ h2⟩)
          unfold Oper.wp at h ⊢
          generalize (execOp a.eval o).run P w = rr at h
          cases rr with
          | ok n w' =>
            cases n <;> simp only [Oper.upon] at h ⊢ <;>
              first
                | exact ih _ _ _ _ _ hq h
                | exact Calls.mono h (fun e w'' he => by cases e <;> first | exact ih _ _ _ _ _ hq he | exact hq _ _ _ he | exact he.imp fun _ ⟨w0, h2⟩ => ⟨w0, hq _ _ _ h2⟩)
                | exact Rows.mono h (fun _ _ he => ih _ _ _ _ _ hq he)
          | halt x w' => cases x <;> simp only [Oper.upon] at h ⊢ <;> exact hq _ _ _ h
        · rename_i hw
          rw [if_neg hw] at h2
          exact ih _ _ _ _ _ hq h2
  exact hm _ _ _ _ _ _ (fun e a w ⟨e1, C2, S2, env2, H2, st2, ok2, q2⟩ => ⟨e1, C2, S2, env2, H2, st.trans r st2, ok2, q2⟩) (hn v H' q C' S' w' (a.put o.dst rv) st.rel st.sat ((k.mono st.ext).put (dstOK.spec hd) rp))

theorem VA.r {i : Nat} {o : Oper} {v : VV} {fuel : Nat} {listed : Array Bool} (hi : ops[i]? = some o) (h : ROp P o env H v) (hg : (o.guard = none) ∨ ∃ j d b, o.guard = some (j, b) ∧ (ops[j]?).bind (·.dst) = some d ∧ lk env.t d = some (.bool b))
    (hr : Region.ready .any ops listed = [i]) (hd : dstOK o N = true)
    (hn : VA P N ops K fuel (listed.setIfInBounds i true) (env.put o.dst v) H) : VA P N ops K (fuel + 1) listed env H :=
  VA.w (fun v' H' => v' = v ∧ H' = H) hi (h.w ⟨rfl, rfl⟩) hg hr hd (fun _ _ ⟨e1, e2⟩ => by subst e1; subst e2; exact hn)

/-! ### Several that only read, at once -/
/-- j waits for i, directly or through others. -/
inductive Waits (ops : Array Oper) : Nat → Nat → Prop
  | one {j i : Nat} {o : Oper} {e : Edge} : ops[j]? = some o → e ∈ o.after → Region.binds .any e = true → e.on = i → Waits ops j i
  | more {j k i : Nat} {o : Oper} {e : Edge} : ops[j]? = some o → e ∈ o.after → Region.binds .any e = true → e.on = k → Waits ops k i → Waits ops j i

def waitsB (ops : Array Oper) (i : Nat) : Nat → Nat → Bool
  | 0, _ => false
  | f + 1, j => match ops[j]? with
    | some o => o.after.toList.any fun e => Region.binds .any e && (e.on == i || waitsB ops i f e.on)
    | none => false

theorem waitsB_spec {i : Nat} : ∀ (f j : Nat), waitsB ops i f j = true → Waits ops j i
  | 0, _, h => by simp [waitsB] at h
  | f + 1, j, h => by
    unfold waitsB at h
    split at h
    · rename_i o ho
      obtain ⟨e, he, h1⟩ := List.any_eq_true.1 h
      simp only [Bool.and_eq_true, Bool.or_eq_true, beq_iff_eq] at h1
      rcases h1.2 with h2 | h2
      · exact .one ho (by simpa using he) h1.1 h2
      · exact .more ho (by simpa using he) h1.1 rfl (waitsB_spec f _ h2)
    · cases h

/-- What is listed has all listed that it waits for. -/
def Closed (ops : Array Oper) (listed : Array Bool) : Prop := ∀ j o, ops[j]? = some o → listed.getD j false = true → ∀ e ∈ o.after, Region.binds .any e = true → listed.getD e.on false = true
def closedB (ops : Array Oper) (listed : Array Bool) : Bool := (List.range ops.size).all fun j => !listed.getD j false || match ops[j]? with
  | some o => o.after.toList.all fun e => !Region.binds .any e || listed.getD e.on false
  | none => true
theorem closedB_spec {listed : Array Bool} (h : closedB ops listed = true) : Closed ops listed := by
  intro j o ho hl e he hb
  have h1 := List.all_eq_true.1 h j (List.mem_range.2 (Array.getElem?_eq_some_iff.1 ho).1)
  simp only [ho, hl, Bool.not_true, Bool.false_or] at h1
  have h2 := List.all_eq_true.1 h1 e (by simpa using he)
  simpa [hb] using h2

theorem waits_listed {listed : Array Bool} (hc : Closed ops listed) {j i : Nat} (hw : Waits ops j i) : listed.getD j false = true → listed.getD i false = true := by
  induction hw with
  | one ho he hb hi => intro hl; subst hi; exact hc _ _ ho hl _ he hb
  | more ho he hb hk _ ih => intro hl; subst hk; exact ih (hc _ _ ho hl _ he hb)

theorem ready_waits {listed : Array Bool} (hc : Closed ops listed) {j i : Nat} (hr : j ∈ Region.ready .any ops listed) (hw : Waits ops j i) : listed.getD i false = true := by
  obtain ⟨_, o, ho, hall⟩ := mem_ready.1 hr
  cases hw with
  | one ho' he hb hi =>
    have : _ = o := Option.some.inj (ho'.symm.trans ho)
    subst this; subst hi
    exact hall _ he hb
  | more ho' he hb hk hw' =>
    have : _ = o := Option.some.inj (ho'.symm.trans ho)
    subst this; subst hk
    exact waits_listed hc hw' (hall _ he hb)

/-- A phase: the operations of 'p', in whatever order, in one world. -/
def wpP (P : Program) (ops : Array Oper) (w : World) (p : List Nat) (F : Array Bool → Act → Prop) : Nat → Array Bool → Act → Prop
  | 0, listed, a => F listed a
  | f + 1, listed, a => Region.ready .any ops listed ≠ [] ∧ ∀ i ∈ Region.ready .any ops listed, i ∈ p ∧ stOp P ops w i (wpP P ops w p F f (listed.setIfInBounds i true)) a

theorem unlisted_of_ready {listed : Array Bool} {i : Nat} (hr : i ∈ Region.ready .any ops listed) : listed.getD i false = false := by
  have h := (mem_ready.1 hr).1
  rcases Nat.lt_or_ge i listed.size with h' | h'
  · simp [h'] at h ⊢; exact h
  · simp [Array.getElem?_eq_none h'] at h

theorem Closed.set {listed : Array Bool} (hc : Closed ops listed) {i : Nat} (hr : i ∈ Region.ready .any ops listed) : Closed ops (listed.setIfInBounds i true) := by
  intro j o ho hl e he hb
  by_cases hij : i = j
  · subst hij
    obtain ⟨_, o', ho', hall⟩ := mem_ready.1 hr
    have : o = o' := Option.some.inj (ho.symm.trans ho')
    subst this
    exact getD_set_true (hall e he hb)
  · rw [getD_set_ne false hij] at hl
    exact getD_set_true (hc j o ho hl e he hb)

theorem wpP_first {w : World} {p : List Nat} {F : Array Bool → Act → Prop} {i : Nat} {oi : Oper} {v : Value} (hi : ops[i]? = some oi) (hsel : ∀ (j : Nat) (o : Oper) cs b, ops[j]? = some o → o.op ≠ .select cs b)
    (hdone : ∀ listed a, F listed a → ∀ j ∈ Region.ready .any ops listed, j ∉ p) (hp : i ∈ p) :
    ∀ (f : Nat) (listed : Array Bool) (a : Act), listed.size = ops.size → Closed ops listed →
      (∀ j oj, ops[j]? = some oj → listed.getD j true = false → j ∉ p → Waits ops j i) →
      (∀ j oj, ops[j]? = some oj → j ≠ i → listed.getD j true = false → (∀ e ∈ oj.after, Region.binds .any e = true → e.on ≠ i) → oi.apart ops oj = true) →
      i ∈ Region.ready .any ops listed → YieldsAt P ops w oi v a →
      wpP P ops w p F f (listed.setIfInBounds i true) (a.put oi.dst v) → wpP P ops w p F (f + 1) listed a := by
  intro f
  induction f with
  | zero =>
    intro listed a hs hc hout _ hr hy Hh
    refine ⟨fun h => (by rw [h] at hr; cases hr), fun j hj => ?_⟩
    by_cases hji : j = i
    · subst hji; exact ⟨hp, hy.stOp hi Hh⟩
    · obtain ⟨hjun, oj, hoj, _⟩ := mem_ready.1 hj
      have hjp : j ∈ p := Classical.byContradiction fun hn => by
        have := ready_waits hc hj (hout j oj hoj hjun hn)
        rw [unlisted_of_ready hr] at this
        cases this
      exact absurd hjp (hdone _ _ Hh j (ready_mono hj hji))
  | succ f ih =>
    intro listed a hs hc hout hfree hr hy Hh
    refine ⟨fun h => (by rw [h] at hr; cases hr), fun j hj => ?_⟩
    by_cases hji : j = i
    · subst hji; exact ⟨hp, hy.stOp hi Hh⟩
    · obtain ⟨hjun, oj, hoj, hall⟩ := mem_ready.1 hj
      have hjp : j ∈ p := Classical.byContradiction fun hn => by
        have := ready_waits hc hj (hout j oj hoj hjun hn)
        rw [unlisted_of_ready hr] at this
        cases this
      refine ⟨hjp, ?_⟩
      have h1 := (Hh.2 j (ready_mono hj hji)).2
      have hnot : ∀ e ∈ oj.after, Region.binds .any e = true → e.on ≠ i := fun e he hb heq => by
        have h1 := hall e he hb
        rw [heq, unlisted_of_ready hr] at h1
        cases h1
      have h2 := stOp_put hoj (hfree j oj hoj hji hjun hnot) (fun cs b => hsel i oi cs b hi) (fun cs b => hsel j oj cs b hoj) hy h1
      have un : ∀ k, (listed.setIfInBounds j true).getD k true = false → listed.getD k true = false := fun k hun => by
        by_cases hjk : j = k
        · subst hjk; exact hjun
        · rw [getD_set_ne true hjk] at hun; exact hun
      refine stOp_mono (fun a' h3 => ih (listed.setIfInBounds j true) a' (by simpa using hs) (hc.set hj) (fun k ok hk hun => hout k ok hk (un k hun)) (fun k ok hk hki hun hno => hfree k ok hk hki (un k hun) hno) (ready_mono hr (Ne.symm hji)) h3.1 ?_) h2
      rw [Array.setIfInBounds_comm _ _ hji]
      exact h3.2

theorem wpAny_of_wpP {w : World} {p : List Nat} {F : Array Bool → Act → Prop} {g : Nat} {Q : Exit → Act → World → Prop} (hF : ∀ listed a, F listed a → wpAny P .any ops Q g listed a w) : ∀ (f : Nat) (listed : Array Bool) (a : Act),
    wpP P ops w p F f listed a → wpAny P .any ops Q (f + g) listed a w
  | 0, listed, a, h => by rw [Nat.zero_add]; exact hF _ _ h
  | f + 1, listed, a, h => by
    rw [show f + 1 + g = (f + g) + 1 by omega]
    exact ⟨fun h0 => absurd h0 h.1, fun i hi => wpOp_of_stOp (fun a' h' => wpAny_of_wpP hF f _ a' h') (h.2 i hi).2⟩

/-- The phase over abstract states. -/
def VP (P : Program) (N : Nat) (ops : Array Oper) (K : Env → HH → Prop) (p : List Nat) (g f : Nat) (listed : Array Bool) (env : Env) (H : HH) : Prop :=
  ∀ C S w a, Rel C S w → Sat S H → EnvOK C w N env a →
    wpP P ops w p (fun listed' a' => (∀ j ∈ Region.ready .any ops listed', j ∉ p) ∧ wpAny P .any ops (fun e a' w' => e = .normal ∧ ∃ C' S' env' H', Step C S w H C' S' w' H' ∧ EnvOK C' w' N env' a' ∧ K env' H') g listed' a' w) f listed a

def phaseB (ops : Array Oper) (N : Nat) (p : List Nat) (listed : Array Bool) (i : Nat) : Bool :=
  Region.noSelect ops && p.contains i && (listed.size == ops.size) && closedB ops listed && Region.free .any ops listed i && (Region.ready .any ops listed).contains i && (match ops[i]? with | some o => dstOK o N | none => false) &&
    (List.range ops.size).all fun j => listed.getD j true || p.contains j || waitsB ops i ops.size j

theorem VP.take {p : List Nat} {g f i : Nat} {listed : Array Bool} {o : Oper} {v : VV} (hi : ops[i]? = some o) (h : ROp P o env H v) (hg : (o.guard = none) ∨ ∃ j d b, o.guard = some (j, b) ∧ (ops[j]?).bind (·.dst) = some d ∧ lk env.t d = some (.bool b))
    (hc : phaseB ops N p listed i = true) (hn : VP P N ops K p g f (listed.setIfInBounds i true) (env.put o.dst v) H) : VP P N ops K p g (f + 1) listed env H := by
  intro C S w a r s k
  simp only [phaseB, hi, Bool.and_eq_true, beq_iff_eq] at hc
  obtain ⟨⟨⟨⟨⟨⟨⟨c1, c2⟩, c3⟩, c4⟩, c5⟩, c6⟩, c7⟩, c8⟩ := hc
  obtain ⟨rv, h1, h2⟩ := h C S w N a r s k
  refine wpP_first (v := rv) hi (Region.noSelect_spec c1) (fun _ _ hF => hF.1) (by simpa using c2) f listed a c3 (closedB_spec c4) (fun j oj hj hun hjp => ?_) (Region.free_spec hi c5) (by simpa using c6) (.inl ⟨wanted_of k hg, .inl h1⟩) (hn C S w _ r s (k.put (dstOK.spec c7) h2))
  have h8 := List.all_eq_true.1 c8 j (List.mem_range.2 (Array.getElem?_eq_some_iff.1 hj).1)
  have hjp' : p.contains j = false := by simpa using hjp
  simp only [hun, hjp', Bool.false_or] at h8
  exact waitsB_spec _ _ h8

theorem VP.skip {p : List Nat} {g f i j d : Nat} {listed : Array Bool} {o : Oper} {b : Bool} {u : VV} (hi : ops[i]? = some o) (hg : o.guard = some (j, b)) (hj : (ops[j]?).bind (·.dst) = some d) (hb : lk env.t d = some u) (hne : notB b u = true)
    (hc : phaseB ops N p listed i = true) (hn : VP P N ops K p g f (listed.setIfInBounds i true) (env.put o.dst (.tup [])) H) : VP P N ops K p g (f + 1) listed env H := by
  intro C S w a r s k
  simp only [phaseB, hi, Bool.and_eq_true, beq_iff_eq] at hc
  obtain ⟨⟨⟨⟨⟨⟨⟨c1, c2⟩, c3⟩, c4⟩, c5⟩, c6⟩, c7⟩, c8⟩ := hc
  have hw : Region.wanted o (yielded ops a.tmps) = false := unwanted_of k hg hj hb hne
  refine wpP_first (v := undef) hi (Region.noSelect_spec c1) (fun _ _ hF => hF.1) (by simpa using c2) f listed a c3 (closedB_spec c4) (fun j oj hj hun hjp => ?_) (Region.free_spec hi c5) (by simpa using c6) (.inr ⟨hw, rfl⟩) (hn C S w _ r s (k.put (dstOK.spec c7) rep_undef))
  have h8 := List.all_eq_true.1 c8 j (List.mem_range.2 (Array.getElem?_eq_some_iff.1 hj).1)
  have hjp' : p.contains j = false := by simpa using hjp
  simp only [hun, hjp', Bool.false_or] at h8
  exact waitsB_spec _ _ h8

theorem VP.done {p : List Nat} {g : Nat} {listed : Array Bool} (hc : ((Region.ready .any ops listed).all fun j => !p.contains j) = true) (hn : VA P N ops K g listed env H) : VP P N ops K p g 0 listed env H :=
  fun C S w a r s k => ⟨fun j hj => by have := List.all_eq_true.1 hc j hj; simpa using this, hn C S w a r s k⟩

theorem VA.phase {g : Nat} {listed : Array Bool} (p : List Nat) (f : Nat) (h : VP P N ops K p g f listed env H) : VA P N ops K (f + g) listed env H :=
  fun C S w a r s k => wpAny_of_wpP (fun _ _ hF => hF.2) f listed a (h C S w a r s k)

end Go.AV
