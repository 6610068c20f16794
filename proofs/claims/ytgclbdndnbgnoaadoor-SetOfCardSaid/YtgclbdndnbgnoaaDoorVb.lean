/- Judgements over abstract states: calls, code, operations in a row, operations in whatever order. -/
import Derived.Test.YtgclbdndnbgnoaaDoorVa
import Derived.Tactics
import Derived.Orders
import Derived.Deep.LoopGhost
namespace Go.AV
set_option linter.all false
open Go.RowKit (Below)

/-- A footprint: objects and growth tokens that the code at hand owns. -/
structure HH where
  objs : List (Nat × AObj)
  toks : List Nat

def HH.ids (H : HH) : List Nat := H.objs.map Prod.fst
abbrev HH.none : HH := ⟨[], []⟩

structure Sat (S : AS) (H : HH) : Prop where
  objs : ∀ p ∈ H.objs, S.obj p.1 = some p.2
  nodup : H.ids.Nodup
  toks : ∀ t ∈ H.toks, S.live t = true
  tnodup : H.toks.Nodup

/-- From a state with footprint H to a later one with footprint H'. -/
structure Step (C : Ctx) (S : AS) (w : World) (H : HH) (C' : Ctx) (S' : AS) (w' : World) (H' : HH) : Prop where
  ext : Ext C w C' w'
  rel : Rel C' S' w'
  sat : Sat S' H'
  obj : ∀ o, o < S.next → o ∉ H.ids → S'.obj o = S.obj o
  blk : ∀ o, S.obj o ≠ none → o ∉ H.ids → w'.heap[C.σ o]? = w.heap[C.σ o]?
  live : ∀ t, t < S.next → t ∉ H.toks → S'.live t = S.live t
  newo : ∀ o ∈ H'.ids, o ∈ H.ids ∨ S.next ≤ o
  newt : ∀ t ∈ H'.toks, t ∈ H.toks ∨ S.next ≤ t

theorem Step.next {C S w H C' S' w' H'} (h : Step C S w H C' S' w' H') (r : Rel C S w) : S.next ≤ S'.next := by
  rw [r.n, h.rel.n]; exact h.ext.n

theorem Step.refl {C S w H} (r : Rel C S w) (s : Sat S H) : Step C S w H C S w H :=
  ⟨Ext.refl _ _, r, s, fun _ _ _ => rfl, fun _ _ _ => rfl, fun _ _ _ => rfl, fun _ h => .inl h, fun _ h => .inl h⟩

theorem Rel.lt {C : Ctx} {S : AS} {w : World} (r : Rel C S w) {o : Nat} (h : S.obj o ≠ none) : o < S.next := by
  rw [r.n]
  cases hc : S.obj o with
  | none => exact absurd hc h
  | some c => exact (r.objs o c hc).1

theorem Step.trans {C S w H C1 S1 w1 H1 C2 S2 w2 H2} (r : Rel C S w) (h : Step C S w H C1 S1 w1 H1) (k : Step C1 S1 w1 H1 C2 S2 w2 H2) :
    Step C S w H C2 S2 w2 H2 := by
  have hn := h.next r
  have no : ∀ o, o < S.next → o ∉ H.ids → o ∉ H1.ids := fun o ho hH h1 => by
    rcases h.newo o h1 with h2 | h2
    · exact hH h2
    · omega
  have nt : ∀ t, t < S.next → t ∉ H.toks → t ∉ H1.toks := fun t ht hH h1 => by
    rcases h.newt t h1 with h2 | h2
    · exact hH h2
    · omega
  refine ⟨h.ext.trans k.ext, k.rel, k.sat, fun o ho hH => ?_, fun o ho hH => ?_, fun t ht hH => ?_, fun o ho => ?_, fun t ht => ?_⟩
  · rw [k.obj o (Nat.lt_of_lt_of_le ho hn) (no o ho hH), h.obj o ho hH]
  · have hlt := r.lt ho
    have e := h.obj o hlt hH
    have := k.blk o (by rw [e]; exact ho) (no o hlt hH)
    rw [h.ext.σ o (by rw [← r.n]; exact hlt)] at this
    rw [this, h.blk o ho hH]
  · rw [k.live t (Nat.lt_of_lt_of_le ht hn) (nt t ht hH), h.live t ht hH]
  · rcases k.newo o ho with h2 | h2
    · exact h.newo o h2
    · exact .inr (Nat.le_trans hn h2)
  · rcases k.newt t ht with h2 | h2
    · exact h.newt t h2
    · exact .inr (Nat.le_trans hn h2)

/-- A call of a function, from a footprint, to a result and a footprint. -/
def VCalls (P : Program) (f : FuncId) (args : List VV) (H : HH) (R : VV → HH → Prop) : Prop :=
  ∀ C S w (ra : List Value), Rel C S w → Sat S H → RepL C w args ra →
    Calls P f ra.toArray w fun e w' => ∃ v rv C' S' H', e = .returned rv ∧ Step C S w H C' S' w' H' ∧ Rep C' w' v rv ∧ R v H'

theorem VCalls.mono {P f args H} {R R' : VV → HH → Prop} (h : VCalls P f args H R) (hr : ∀ v H', R v H' → R' v H') : VCalls P f args H R' :=
  fun C S w ra r s ha => (h C S w ra r s ha).mono fun _ _ ⟨v, rv, C', S', H', e, st, rp, q⟩ => ⟨v, rv, C', S', H', e, st, rp, hr _ _ q⟩

/-- A footprint beside another one. -/
def HH.app (A B : HH) : HH := ⟨A.objs ++ B.objs, A.toks ++ B.toks⟩

theorem Sat.left {S : AS} {A B : HH} (s : Sat S (A.app B)) : Sat S A :=
  ⟨fun p hp => s.objs p (List.mem_append_left _ hp), by have := s.nodup; simp only [HH.ids, HH.app, List.map_append] at this; exact (List.nodup_append.1 this).1,
   fun t ht => s.toks t (List.mem_append_left _ ht), by have := s.tnodup; simp only [HH.app] at this; exact (List.nodup_append.1 this).1⟩

theorem Sat.right {S : AS} {A B : HH} (s : Sat S (A.app B)) : Sat S B :=
  ⟨fun p hp => s.objs p (List.mem_append_right _ hp), by have := s.nodup; simp only [HH.ids, HH.app, List.map_append] at this; exact (List.nodup_append.1 this).2.1,
   fun t ht => s.toks t (List.mem_append_right _ ht), by have := s.tnodup; simp only [HH.app] at this; exact (List.nodup_append.1 this).2.1⟩

/-- What a step leaves alone stays beside it. -/
theorem Step.frame {C S w A B C' S' w' A'} (r : Rel C S w) (s : Sat S (A.app B)) (htl : ∀ t, S.live t = true → t < S.next) (h : Step C S w A C' S' w' A') :
    Step C S w (A.app B) C' S' w' (A'.app B) := by
  have hA := s.left
  have hB := s.right
  have d1 : ∀ o ∈ B.ids, o ∉ A.ids := fun o hb ha => by
    have := s.nodup
    simp only [HH.ids, HH.app, List.map_append] at this
    exact (List.nodup_append.1 this).2.2 o ha o hb rfl
  have d2 : ∀ t ∈ B.toks, t ∉ A.toks := fun t hb ha => by
    have := s.tnodup
    simp only [HH.app] at this
    exact (List.nodup_append.1 this).2.2 t ha t hb rfl
  have lo : ∀ o ∈ B.ids, o < S.next := fun o hb => by
    obtain ⟨p, hp, rfl⟩ := List.mem_map.1 hb
    exact r.lt (by rw [hB.objs p hp]; simp)
  have lt : ∀ t ∈ B.toks, t < S.next := fun t hb => htl t (hB.toks t hb)
  have n1 : ∀ o ∈ B.ids, o ∉ A'.ids := fun o hb ha => by
    rcases h.newo o ha with h1 | h1
    · exact d1 o hb h1
    · have := lo o hb; omega
  have n2 : ∀ t ∈ B.toks, t ∉ A'.toks := fun t hb ha => by
    rcases h.newt t ha with h1 | h1
    · exact d2 t hb h1
    · have := lt t hb; omega
  have mi : ∀ (X Y : HH) o, o ∈ (X.app Y).ids ↔ o ∈ X.ids ∨ o ∈ Y.ids := fun X Y o => by simp [HH.ids, HH.app]
  have mt : ∀ (X Y : HH) t, t ∈ (X.app Y).toks ↔ t ∈ X.toks ∨ t ∈ Y.toks := fun X Y t => by simp [HH.app]
  refine ⟨h.ext, h.rel, ⟨fun p hp => ?_, ?_, fun t ht => ?_, ?_⟩, fun o ho hH => h.obj o ho fun k => hH ((mi _ _ _).2 (.inl k)), fun o ho hH => h.blk o ho fun k => hH ((mi _ _ _).2 (.inl k)),
    fun t ht hH => h.live t ht fun k => hH ((mt _ _ _).2 (.inl k)), fun o ho => ?_, fun t ht => ?_⟩
  · rcases List.mem_append.1 hp with hp | hp
    · exact h.sat.objs p hp
    · have hb : p.1 ∈ B.ids := List.mem_map.2 ⟨p, hp, rfl⟩
      rw [h.obj p.1 (lo _ hb) (d1 _ hb)]
      exact hB.objs p hp
  · simp only [HH.ids, HH.app, List.map_append]
    refine List.nodup_append.2 ⟨h.sat.nodup, hB.nodup, fun x hx y hy e => ?_⟩
    subst e
    exact n1 _ hy hx
  · rcases List.mem_append.1 ht with ht | ht
    · exact h.sat.toks t ht
    · rw [h.live t (lt _ ht) (d2 _ ht)]
      exact hB.toks t ht
  · simp only [HH.app]
    refine List.nodup_append.2 ⟨h.sat.tnodup, hB.tnodup, fun x hx y hy e => ?_⟩
    subst e
    exact n2 _ hy hx
  · rcases (mi _ _ _).1 ho with ho | ho
    · exact (h.newo o ho).imp (fun k => (mi _ _ _).2 (.inl k)) id
    · exact .inl ((mi _ _ _).2 (.inr ho))
  · rcases (mt _ _ _).1 ht with ht | ht
    · exact (h.newt t ht).imp (fun k => (mt _ _ _).2 (.inl k)) id
    · exact .inl ((mt _ _ _).2 (.inr ht))

theorem Rel.livelt {C : Ctx} {S : AS} {w : World} (r : Rel C S w) (t : Nat) (h : S.live t = true) : t < S.next := by
  rw [r.n]; exact (r.live t h).1

theorem VCalls.frame {P f args A} {R : VV → HH → Prop} (B : HH) (h : VCalls P f args A R) : VCalls P f args (A.app B) fun v H' => ∃ A', H' = A'.app B ∧ R v A' :=
  fun C S w ra r s ha => (h C S w ra r s.left ha).mono fun _ _ ⟨v, rv, C', S', A', e, st, rp, q⟩ =>
    ⟨v, rv, C', S', A'.app B, e, st.frame r s r.livelt, rp, A', rfl, q⟩

/-! ### Local variables -/
structure Env where
  t : List (Nat × VV)
  ds : List (FuncId × List VV)

def lk : List (Nat × VV) → Nat → Option VV
  | [], _ => none
  | (k, v) :: r, i => bif Nat.beq i k then some v else lk r i
theorem lk_cons (k : Nat) (v : VV) (r : List (Nat × VV)) (i : Nat) : lk ((k, v) :: r) i = if i = k then some v else lk r i := by
  rw [show lk ((k, v) :: r) i = bif Nat.beq i k then some v else lk r i from rfl]
  by_cases h : i = k
  · rw [if_pos h, h, Nat.beq_refl]; rfl
  · rw [if_neg h]
    cases hb : Nat.beq i k with
    | false => rfl
    | true => exact absurd (Nat.eq_of_beq_eq_true hb) h

def RepDs (C : Ctx) (w : World) : List (FuncId × List VV) → List Deferred → Prop
  | [], ds => ds = []
  | x :: xs, ds => ∃ (fv : Fn) (cap args : Array Value) (rest : List Deferred), ds = ⟨.fn fv cap, args⟩ :: rest ∧ fv = .func x.1 ∧
      RepL C w x.2 (args ++ cap).toList ∧ RepDs C w xs rest

structure EnvOK (C : Ctx) (w : World) (N : Nat) (env : Env) (a : Act) : Prop where
  size : a.tmps.size = N
  get : ∀ k v, lk env.t k = some v → ∃ rv, a.tmps[k]? = some rv ∧ Rep C w v rv
  ds : RepDs C w env.ds a.defers

theorem RepDs.mono {C C' : Ctx} {w w' : World} (h : Ext C w C' w') : ∀ (l : List (FuncId × List VV)) (ds : List Deferred), RepDs C w l ds → RepDs C' w' l ds
  | [], _, hr => hr
  | x :: xs, ds, hr => by
    unfold RepDs at hr ⊢
    obtain ⟨fv, cap, args, rest, e, e2, hl, hd⟩ := hr
    exact ⟨fv, cap, args, rest, e, e2, RepL.mono h _ _ hl, RepDs.mono h xs rest hd⟩

theorem EnvOK.mono {C C' : Ctx} {w w' : World} {N : Nat} {env : Env} {a : Act} (h : Ext C w C' w') (k : EnvOK C w N env a) : EnvOK C' w' N env a :=
  ⟨k.size, fun i v hv => let ⟨rv, h1, h2⟩ := k.get i v hv; ⟨rv, h1, Rep.mono h v rv h2⟩, RepDs.mono h _ _ k.ds⟩

def Env.put (env : Env) (d : Option Tmp) (v : VV) : Env :=
  match d with
  | some d => ⟨(d, v) :: env.t, env.ds⟩
  | none => env

theorem EnvOK.put {C : Ctx} {w : World} {N : Nat} {env : Env} {a : Act} (k : EnvOK C w N env a) {d : Option Tmp} (hd : ∀ i, d = some i → i < N) {v : VV} {rv : Value} (hr : Rep C w v rv) :
    EnvOK C w N (env.put d v) (a.put d rv) := by
  cases d with
  | none => exact k
  | some d =>
    have hlt := hd d rfl
    refine ⟨by simpa [Act.put] using k.size, fun i u hu => ?_, k.ds⟩
    simp only [Env.put] at hu
    rw [lk_cons] at hu
    simp only [Act.put]
    split at hu
    · rename_i e
      subst e
      cases hu
      exact ⟨rv, by rw [Array.getElem?_setIfInBounds_self_of_lt (by rw [k.size]; exact hlt)], hr⟩
    · rename_i ne
      obtain ⟨r, h1, h2⟩ := k.get i u hu
      exact ⟨r, by rw [Array.getElem?_setIfInBounds_ne (fun e => ne e.symm)]; exact h1, h2⟩

/-- 'sub e' e': all that e' knows e knows, too. -/
def sub : List (Nat × VV) → List (Nat × VV) → Prop
  | [], _ => True
  | (k, v) :: r, e => lk e k = some v ∧ sub r e

theorem sub_get : ∀ {e' e : List (Nat × VV)}, sub e' e → ∀ k v, lk e' k = some v → lk e k = some v
  | [], _, _, k, v, h => by simp [lk] at h
  | (i, u) :: r, e, hs, k, v, h => by
    rw [lk_cons] at h
    split at h
    · rename_i hk; subst hk; cases h; exact hs.1
    · exact sub_get hs.2 k v h

theorem EnvOK.sub {C : Ctx} {w : World} {N : Nat} {t' : List (Nat × VV)} {env : Env} {a : Act} (k : EnvOK C w N env a) (h : sub t' env.t) : EnvOK C w N ⟨t', env.ds⟩ a :=
  ⟨k.size, fun i v hv => k.get i v (sub_get h i v hv), k.ds⟩

/-! ### Code -/
def Post (C : Ctx) (S : AS) (w : World) (H : HH) (N : Nat) (Q : Exit → Env → HH → Prop) : Exit → Act → World → Prop :=
  fun e a' w' => ∃ C' S' env' H', Step C S w H C' S' w' H' ∧ EnvOK C' w' N env' a' ∧ Q e env' H'

def VW (P : Program) (N : Nat) (c : Code) (Q : Exit → Env → HH → Prop) (env : Env) (H : HH) : Prop :=
  ∀ C S w a, Rel C S w → Sat S H → EnvOK C w N env a → c.wp P (Post C S w H N Q) a w

variable {P : Program} {N : Nat} {Q : Exit → Env → HH → Prop} {env : Env} {H : HH}

theorem Post.trans {C S w H C1 S1 w1 H1 Q} (r : Rel C S w) (h : Step C S w H C1 S1 w1 H1) {e : Exit} {a : Act} {w2 : World} (k : Post C1 S1 w1 H1 N Q e a w2) : Post C S w H N Q e a w2 := by
  obtain ⟨C', S', env', H', st, ok, q⟩ := k
  exact ⟨C', S', env', H', h.trans r st, ok, q⟩

theorem VW.mono {c : Code} {Q' : Exit → Env → HH → Prop} (h : VW P N c Q env H) (hq : ∀ e env' H', Q e env' H' → Q' e env' H') : VW P N c Q' env H :=
  fun C S w a r s k => wp_mono (h C S w a r s k) fun _ _ _ ⟨C', S', env', H', st, ok, q⟩ => ⟨C', S', env', H', st, ok, hq _ _ _ q⟩

theorem VW.skip (h : Q .normal env H) : VW P N .skip Q env H :=
  fun C S _ _ r s k => wp_skip ⟨C, S, env, H, .refl r s, k, h⟩

theorem VW.exit {id : Nat} (h : Q (.exit id) env H) : VW P N (.exit id) Q env H :=
  fun C S _ _ r s k => wp_exit ⟨C, S, env, H, .refl r s, k, h⟩

theorem VW.ret (h : Q .ret env H) : VW P N .ret Q env H :=
  fun C S _ _ r s k => wp_ret ⟨C, S, env, H, .refl r s, k, h⟩

def thenQ (K : Env → HH → Prop) (Q : Exit → Env → HH → Prop) : Exit → Env → HH → Prop
  | .normal, env, H => K env H
  | e, env, H => Q e env H

theorem VW.seq {x y : Code} (h : VW P N x (thenQ (VW P N y Q) Q) env H) : VW P N (.seq x y) Q env H :=
  fun C S w a r s k => wp_seq (wp_mono (h C S w a r s k) fun e a1 w1 ⟨C1, S1, env1, H1, st, ok, q⟩ => by
    cases e with
    | normal => exact wp_mono (q C1 S1 w1 a1 st.rel st.sat ok) fun _ _ _ k => Post.trans r st k
    | exit id => exact ⟨C1, S1, env1, H1, st, ok, q⟩
    | goto l => exact ⟨C1, S1, env1, H1, st, ok, q⟩
    | ret => exact ⟨C1, S1, env1, H1, st, ok, q⟩
    | panic ch => exact ⟨C1, S1, env1, H1, st, ok, q⟩
    | outgrown => exact ⟨C1, S1, env1, H1, st, ok, q⟩)

def blockQ (id : Nat) (Q : Exit → Env → HH → Prop) : Exit → Env → HH → Prop
  | .exit i, env, H => if i = id then Q .normal env H else Q (.exit i) env H
  | e, env, H => Q e env H

theorem VW.block {id : Nat} {c : Code} (h : VW P N c (blockQ id Q) env H) : VW P N (.block id c) Q env H :=
  fun C S w a r s k => wp_block (wp_mono (h C S w a r s k) fun e a1 w1 ⟨C1, S1, env1, H1, st, ok, q⟩ => by
    cases e with
    | exit i =>
      simp only [Exit.inBlock, blockQ] at q ⊢
      split
      · rename_i e; rw [if_pos e] at q; exact ⟨C1, S1, env1, H1, st, ok, q⟩
      · rename_i e; rw [if_neg e] at q; exact ⟨C1, S1, env1, H1, st, ok, q⟩
    | normal => exact ⟨C1, S1, env1, H1, st, ok, q⟩
    | goto l => exact ⟨C1, S1, env1, H1, st, ok, q⟩
    | ret => exact ⟨C1, S1, env1, H1, st, ok, q⟩
    | panic ch => exact ⟨C1, S1, env1, H1, st, ok, q⟩
    | outgrown => exact ⟨C1, S1, env1, H1, st, ok, q⟩)

/-- A loop: an invariant with a number that each round lowers. -/
theorem VW.loop {c : Code} (I : Nat → Env → HH → Prop) (n : Nat) (h0 : I n env H)
    (round : ∀ n env H, I n env H → VW P N c (thenQ (fun env' H' => ∃ m, m < n ∧ I m env' H') Q) env H) : VW P N (.loop c) Q env H := by
  intro C S w a r s k
  refine wp_loop_ghost (fun n a' w' => ∃ C' S' env' H', Step C S w H C' S' w' H' ∧ EnvOK C' w' N env' a' ∧ I n env' H') n ⟨C, S, env, H, .refl r s, k, h0⟩ ?_
  intro n a1 w1 ⟨C1, S1, env1, H1, st, ok, hI⟩
  refine wp_mono (round n env1 H1 hI C1 S1 w1 a1 st.rel st.sat ok) ?_
  intro e a2 w2 hq
  have hp := hq
  obtain ⟨C2, S2, env2, H2, st2, ok2, q⟩ := hq
  cases e with
  | normal =>
    obtain ⟨m, hm, hI2⟩ := q
    exact ⟨m, hm, C2, S2, env2, H2, st.trans r st2, ok2, hI2⟩
  | exit id => exact ⟨C2, S2, env2, H2, st.trans r st2, ok2, q⟩
  | goto l => exact ⟨C2, S2, env2, H2, st.trans r st2, ok2, q⟩
  | ret => exact ⟨C2, S2, env2, H2, st.trans r st2, ok2, q⟩
  | panic ch => exact ⟨C2, S2, env2, H2, st.trans r st2, ok2, q⟩
  | outgrown => exact ⟨C2, S2, env2, H2, st.trans r st2, ok2, q⟩

/-- Forget what is no longer used. -/
theorem VW.sub {c : Code} {t' : List (Nat × VV)} (h : VW P N c Q ⟨t', env.ds⟩ H) (hs : AV.sub t' env.t) : VW P N c Q env H :=
  fun C S w a r s k => h C S w a r s (k.sub hs)

/-! ### Operands -/
def CRep (c : Value) (v : VV) : Prop := ∀ C w, Rep C w v c

def EvO (env : Env) : Operand → VV → Prop
  | .tmp t, v => lk env.t t = some v
  | .const c, v => CRep c v
  | .global _, _ => False
  | .func f, v => v = .func (.func f) [] []

theorem EvO.rep {C : Ctx} {w : World} {a : Act} {x : Operand} {v : VV} (k : EnvOK C w N env a) (h : EvO env x v) : Rep C w v (a.eval x) := by
  cases x with
  | tmp t =>
    obtain ⟨rv, h1, h2⟩ := k.get t v h
    simp only [Act.eval, Array.getD_eq_getD_getElem?, h1, Option.getD_some]
    exact h2
  | const c => exact h C w
  | global g => exact h.elim
  | func f =>
    simp only [EvO] at h
    subst h
    exact ⟨[], [], rfl, rfl, rfl⟩

theorem VW.cond {c : Operand} {x y : Code} {b : Bool} (hc : EvO env c (.bool b)) (ht : b = true → VW P N x Q env H) (hf : b = false → VW P N y Q env H) : VW P N (.cond c x y) Q env H := by
  intro C S w a r s k
  have hr : a.eval c = .bool b := hc.rep k
  exact wp_cond_split hr (fun h => ht h C S w a r s k) (fun h => hf h C S w a r s k)

/-! ### Operations -/
/-- It yields v whatever the memory is. -/
def TOp (P : Program) (o : Oper) (env : Env) (v : VV) : Prop :=
  ∀ C w N a, EnvOK C w N env a → ∃ rv, (∀ w', (execOp a.eval o).run P w' = .ok (.value rv) w') ∧ Rep C w v rv

/-- It yields v and leaves the memory alone. -/
def ROp (P : Program) (o : Oper) (env : Env) (H : HH) (v : VV) : Prop :=
  ∀ C S w N a, Rel C S w → Sat S H → EnvOK C w N env a → ∃ rv, (execOp a.eval o).run P w = .ok (.value rv) w ∧ Rep C w v rv

theorem TOp.r {o : Oper} {v : VV} (h : TOp P o env v) : ROp P o env H v :=
  fun C _ w N a _ _ k => let ⟨rv, h1, h2⟩ := h C w N a k; ⟨rv, h1 w, h2⟩

/-- It yields something and comes to a new state. -/
def WOp (P : Program) (o : Oper) (env : Env) (H : HH) (K : VV → HH → Prop) : Prop :=
  ∀ C S w N a, Rel C S w → Sat S H → EnvOK C w N env a → ∀ (nx : Act → World → Prop) (Q : Exit → Act → World → Prop),
    (∀ rv w' C' S' H' v, Step C S w H C' S' w' H' → Rep C' w' v rv → K v H' → nx (a.put o.dst rv) w') → o.wp P a w nx Q

theorem ROp.w {o : Oper} {v : VV} {K : VV → HH → Prop} (h : ROp P o env H v) (hK : K v H) : WOp P o env H K := by
  intro C S w N a r s k nx Q hn
  obtain ⟨rv, h1, h2⟩ := h C S w N a r s k
  unfold Oper.wp
  rw [h1, Oper.upon_value]
  exact hn rv w C S H v (.refl r s) h2 hK

/-- The rest of a region in the order of the text. -/
def VO (P : Program) (N : Nat) (ops : Array Oper) (l : List Oper) (K : Env → HH → Prop) (env : Env) (H : HH) : Prop :=
  ∀ C S w a, Rel C S w → Sat S H → EnvOK C w N env a →
    wpList P ops (fun e a' w' => e = .normal ∧ ∃ C' S' env' H', Step C S w H C' S' w' H' ∧ EnvOK C' w' N env' a' ∧ K env' H') l a w

theorem VW.region {id : Nat} {l : List Oper} (h : VO P N l.toArray l (fun env' H' => Q .normal env' H') env H) : VW P N (.region id l.toArray false) Q env H :=
  fun C S w a r s k => wp_mono (wp_region_lit (h C S w a r s k)) fun _ _ _ ⟨e, C', S', env', H', st, ok, q⟩ => by subst e; exact ⟨C', S', env', H', st, ok, q⟩

variable {ops : Array Oper} {l : List Oper} {K : Env → HH → Prop}

theorem VO.nil (h : K env H) : VO P N ops [] K env H :=
  fun C S _ _ r s k => ⟨rfl, C, S, env, H, .refl r s, k, h⟩

theorem VO.sub {t' : List (Nat × VV)} (h : VO P N ops l K ⟨t', env.ds⟩ H) (hs : AV.sub t' env.t) : VO P N ops l K env H :=
  fun C S w a r s k => h C S w a r s (k.sub hs)

theorem wpList_mono {Q Q' : Exit → Act → World → Prop} (hq : ∀ e a w, Q e a w → Q' e a w) : ∀ (l : List Oper) (a : Act) (w : World), wpList P ops Q l a w → wpList P ops Q' l a w
  | [], a, w, h => hq _ _ _ h
  | o :: l, a, w, h => by
    unfold wpList at h ⊢
    split
    · rename_i hw
      rw [if_pos hw] at h
      refine h.imp (fun h => ?_) (fun ⟨h1, a0, w0, h2⟩ => ⟨h1, a0, w0, hq _ _ _ h2⟩)
      unfold Oper.wp at h ⊢
      generalize (execOp a.eval o).run P w = rr at h
      cases rr with
      | ok n w' =>
        cases n <;> simp only [Oper.upon] at h ⊢ <;>
          first
            | exact wpList_mono hq l _ _ h
            | exact Calls.mono h (fun e w'' he => by cases e <;> first | exact wpList_mono hq l _ _ he | exact hq _ _ _ he | exact he.imp fun _ ⟨w0, h2⟩ => ⟨w0, hq _ _ _ h2⟩)
            | exact Rows.mono h (fun _ _ he => wpList_mono hq l _ _ he)
      | halt x w' => cases x <;> simp only [Oper.upon] at h ⊢ <;> exact hq _ _ _ h
    · rename_i hw
      rw [if_neg hw] at h
      exact wpList_mono hq l _ _ h

/-- One operation that is carried out. -/
theorem VO.step_wanted {o : Oper} {K1 : VV → HH → Prop} (hg : ∀ C w a, EnvOK C w N env a → Region.wanted o (yielded ops a.tmps) = true) (hd : ∀ i, o.dst = some i → i < N) (h : WOp P o env H K1)
    (hn : ∀ v H', K1 v H' → VO P N ops l K (env.put o.dst v) H') : VO P N ops (o :: l) K env H := by
  intro C S w a r s k
  unfold wpList
  rw [if_pos (hg C w a k)]
  refine .inl (h C S w N a r s k _ _ fun rv w' C' S' H' v st rp q => ?_)
  exact wpList_mono (fun e a w ⟨e1, C2, S2, env2, H2, st2, ok2, q2⟩ => ⟨e1, C2, S2, env2, H2, st.trans r st2, ok2, q2⟩) _ _ _ (hn v H' q C' S' w' (a.put o.dst rv) st.rel st.sat ((k.mono st.ext).put hd rp))

def dstOK (o : Oper) (N : Nat) : Bool := match o.dst with | some i => decide (i < N) | none => true
theorem dstOK.spec {o : Oper} (h : dstOK o N = true) : ∀ i, o.dst = some i → i < N := fun i hi => by simpa [dstOK, hi] using h

theorem VO.w {o : Oper} (K1 : VV → HH → Prop) (h : WOp P o env H K1) (hg : o.guard = none) (hd : dstOK o N = true) 
    (hn : ∀ v H', K1 v H' → VO P N ops l K (env.put o.dst v) H') : VO P N ops (o :: l) K env H :=
  VO.step_wanted (fun _ _ _ _ => by simp [Region.wanted, hg]) (dstOK.spec hd) h hn

theorem VO.r {o : Oper} {v : VV} (h : ROp P o env H v) (hg : o.guard = none) (hd : dstOK o N = true)
    (hn : VO P N ops l K (env.put o.dst v) H) : VO P N ops (o :: l) K env H :=
  VO.w (fun v' H' => v' = v ∧ H' = H) (h.w ⟨rfl, rfl⟩) hg hd (fun _ _ ⟨e1, e2⟩ => by subst e1; subst e2; exact hn)

theorem VO.t {o : Oper} {v : VV} (h : TOp P o env v) (hg : o.guard = none) (hd : dstOK o N = true)
    (hn : VO P N ops l K (env.put o.dst v) H) : VO P N ops (o :: l) K env H := VO.r h.r hg hd hn

theorem yielded_of {C : Ctx} {w : World} {a : Act} {j d : Nat} {b : Bool} (k : EnvOK C w N env a) (hj : (ops[j]?).bind (·.dst) = some d) (hb : lk env.t d = some (.bool b)) : yielded ops a.tmps j = some b := by
  obtain ⟨rv, h1, h2⟩ := k.get d _ hb
  have h2 : rv = .bool b := h2
  subst h2
  simp [yielded, hj, h1]

/-- Guarded operations: the guard's outcome is known. -/
theorem VO.gw {o : Oper} {j d : Nat} {b : Bool} (K1 : VV → HH → Prop) (h : WOp P o env H K1) (hg : o.guard = some (j, b)) (hj : (ops[j]?).bind (·.dst) = some d) (hb : lk env.t d = some (.bool b))
    (hd : dstOK o N = true) (hn : ∀ v H', K1 v H' → VO P N ops l K (env.put o.dst v) H') : VO P N ops (o :: l) K env H :=
  VO.step_wanted (fun C w a k => by simp [Region.wanted, hg, yielded_of k hj hb]) (dstOK.spec hd) h hn

theorem VO.gr {o : Oper} {j d : Nat} {b : Bool} {v : VV} (h : ROp P o env H v) (hg : o.guard = some (j, b)) (hj : (ops[j]?).bind (·.dst) = some d) (hb : lk env.t d = some (.bool b))
    (hd : dstOK o N = true) (hn : VO P N ops l K (env.put o.dst v) H) : VO P N ops (o :: l) K env H :=
  VO.gw (fun v' H' => v' = v ∧ H' = H) (h.w ⟨rfl, rfl⟩) hg hj hb hd (fun _ _ ⟨e1, e2⟩ => by subst e1; subst e2; exact hn)

theorem VO.gt {o : Oper} {j d : Nat} {b : Bool} {v : VV} (h : TOp P o env v) (hg : o.guard = some (j, b)) (hj : (ops[j]?).bind (·.dst) = some d) (hb : lk env.t d = some (.bool b))
    (hd : dstOK o N = true) (hn : VO P N ops l K (env.put o.dst v) H) : VO P N ops (o :: l) K env H := VO.gr h.r hg hj hb hd hn

/-- The value is the other bool, or that of an operation left out. -/
def notB (b : Bool) : VV → Bool
  | .bool b' => b' == !b
  | .tup [] => true
  | _ => false
theorem unwanted_of {C : Ctx} {w : World} {a : Act} {j d : Nat} {b : Bool} {u : VV} {o : Oper} (k : EnvOK C w N env a) (hg : o.guard = some (j, b)) (hj : (ops[j]?).bind (·.dst) = some d) (hb : lk env.t d = some u) (hne : notB b u = true) : Region.wanted o (yielded ops a.tmps) = false := by
  obtain ⟨rv, h1, h2⟩ := k.get d _ hb
  unfold notB at hne
  split at hne
  · rename_i b'
    have h2 : rv = .bool b' := h2
    subst h2
    have : b' = !b := by simpa using hne
    subst this
    cases b <;> simp [Region.wanted, hg, yielded, hj, h1]
  · obtain ⟨rs, h3, h4⟩ : ∃ rs : List Value, rv = .tuple rs.toArray ∧ RepL C w [] rs := h2
    subst h3
    simp [Region.wanted, hg, yielded, hj, h1]
  · cases hne
theorem rep_undef {C : Ctx} {w : World} : Rep C w (.tup []) undef := ⟨[], rfl, rfl⟩

theorem VO.gskip {o : Oper} {j d : Nat} {b : Bool} {u : VV} (hg : o.guard = some (j, b)) (hj : (ops[j]?).bind (·.dst) = some d) (hb : lk env.t d = some u) (hne : notB b u = true)
    (hd : dstOK o N = true) (hn : VO P N ops l K (env.put o.dst (.tup [])) H) : VO P N ops (o :: l) K env H := by
  intro C S w a r s k
  unfold wpList
  rw [if_neg (by simp [unwanted_of k hg hj hb hne])]
  exact hn C S w _ r s (k.put (dstOK.spec hd) rep_undef)

/-! ### A function's body -/
/-- What the results read as. -/
def resOf (env : Env) : List Tmp → VV → Prop
  | [], v => v = .tup []
  | [t], v => lk env.t t = some v
  | [t, u], v => ∃ x y, lk env.t t = some x ∧ lk env.t u = some y ∧ v = .tup [x, y]
  | [t, u, s], v => ∃ x y z, lk env.t t = some x ∧ lk env.t u = some y ∧ lk env.t s = some z ∧ v = .tup [x, y, z]
  | _, _ => False

theorem EnvOK.getD {C : Ctx} {w : World} {a : Act} (k : EnvOK C w N env a) {t : Tmp} {v : VV} (h : lk env.t t = some v) : Rep C w v (a.tmps.getD t undef) := by
  obtain ⟨rv, h1, h2⟩ := k.get t v h
  simpa only [Array.getD_eq_getD_getElem?, h1, Option.getD_some] using h2

theorem resOf_results {fn : Func} {ts : List Tmp} (h : fn.results = (ts.map ResultVar.tmp).toArray) {C : Ctx} {w : World} {a : Act} (k : EnvOK C w N env a) {v : VV} (hv : resOf env ts v) :
    ∃ rv, (results fn a.tmps).run P w = .ok rv w ∧ Rep C w v rv := by
  match ts, hv with
  | [], hv =>
    simp only [resOf] at hv
    subst hv
    exact ⟨_, results_none (by simpa using h) _ _ _, [], rfl, rfl⟩
  | [t], hv => exact ⟨_, results_tmp (by simpa using h) _ _ _, k.getD hv⟩
  | [t, u], ⟨x, y, hx, hy, hv⟩ =>
    subst hv
    exact ⟨_, results_tmp2 (by simpa using h) _ _ _, [_, _], rfl, _, _, rfl, k.getD hx, _, _, rfl, k.getD hy, rfl⟩
  | [t, u, s], ⟨x, y, z, hx, hy, hz, hv⟩ =>
    subst hv
    refine ⟨.tuple #[a.tmps.getD t undef, a.tmps.getD u undef, a.tmps.getD s undef], ?_, [_, _, _], rfl, _, _, rfl, k.getD hx, _, _, rfl, k.getD hy, _, _, rfl, k.getD hz, rfl⟩
    have h' : fn.results = #[.tmp t, .tmp u, .tmp s] := by simpa using h
    simp [results, h']

def enumFrom : Nat → List VV → List (Nat × VV)
  | _, [] => []
  | i, v :: vs => (i, v) :: enumFrom (i + 1) vs

theorem RepL.get {C : Ctx} {w : World} : ∀ {vs : List VV} {rs : List Value}, RepL C w vs rs → vs.length = rs.length ∧ ∀ (i : Nat) (v : VV), vs[i]? = some v → ∃ r, rs[i]? = some r ∧ Rep C w v r
  | [], rs, h => by
    unfold RepL at h
    subst h
    exact ⟨rfl, fun i v hv => by simp at hv⟩
  | v :: vs, rs, h => by
    unfold RepL at h
    obtain ⟨r, rest, e, h1, h2⟩ := h
    subst e
    obtain ⟨hl, hg⟩ := RepL.get h2
    refine ⟨by simp [hl], fun i u hu => ?_⟩
    cases i with
    | zero => simp at hu; subst hu; exact ⟨r, rfl, h1⟩
    | succ i => exact hg i u (by simpa using hu)

theorem lk_enumFrom : ∀ (vs : List VV) (i k : Nat) (v : VV), lk (enumFrom i vs) k = some v → i ≤ k ∧ vs[k - i]? = some v
  | [], i, k, v, h => by simp [enumFrom, lk] at h
  | u :: vs, i, k, v, h => by
    simp only [enumFrom] at h
    rw [lk_cons] at h
    split at h
    · rename_i e; subst e; exact ⟨Nat.le_refl _, by simpa using h⟩
    · obtain ⟨h1, h2⟩ := lk_enumFrom vs (i + 1) k v h
      refine ⟨by omega, ?_⟩
      rw [show k - i = (k - (i + 1)) + 1 by omega]
      simpa using h2

/-- A function by its body. -/
theorem VCalls.body {f : FuncId} {fn : Func} {c : Code} {args : List VV} {R : VV → HH → Prop} {ts : List Tmp} (hf : P.funcs[f]? = some fn) (hb : fn.body = some c)
    (hts : fn.results = (ts.map ResultVar.tmp).toArray) (hn : args.length ≤ fn.ntmps)
    (h : VW P fn.ntmps c (fun e env' H' => (e = .normal ∨ e = .ret) ∧ env'.ds = [] ∧ ∃ v, resOf env' ts v ∧ R v H') ⟨enumFrom 0 args, []⟩ H) : VCalls P f args H R := by
  intro C S w ra r s ha
  obtain ⟨hl, hg⟩ := ha.get
  refine calls_of_wp hf hb ?_
  refine wp_mono (h C S w _ r s ⟨?_, fun k v hv => ?_, rfl⟩) ?_
  · simp only [Array.size_append, Array.size_replicate, List.size_toArray]; omega
  · obtain ⟨h1, h2⟩ := lk_enumFrom args 0 k v hv
    obtain ⟨rv, h3, h4⟩ := hg k v (by simpa using h2)
    refine ⟨rv, ?_, h4⟩
    have hk : k < ra.length := by
      rcases Nat.lt_or_ge k ra.length with hk | hk
      · exact hk
      · rw [List.getElem?_eq_none hk] at h3; cases h3
    rw [Array.getElem?_append_left (by simpa using hk)]
    simpa using h3
  · intro e a' w' ⟨C', S', env', H', st, ok, he, hds, v, hv, hR⟩
    obtain ⟨rv, hr1, hr2⟩ := resOf_results (P := P) hts ok hv
    have hd : a'.defers = [] := by
      have := ok.ds
      rw [hds] at this
      exact this
    have : a'.defers = [] ∧ ∃ v, (results fn a'.tmps).run P w' = .ok v w' ∧ ∃ v1 rv C' S' H', Ending.returned v = .returned rv ∧ Step C S w H C' S' w' H' ∧ Rep C' w' v1 rv ∧ R v1 H' :=
      ⟨hd, rv, hr1, v, rv, C', S', H', rfl, st, hr2, hR⟩
    rcases he with rfl | rfl
    · exact this
    · exact this

end Go.AV
