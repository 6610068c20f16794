/- What the printed walks use: footprints by tokens, case splits, forgetting, functions' bodies, facts on types. -/
import Derived.Test.YtgclbdndnbgnoaaDoorVj
import Derived.KernelRfl
namespace Go.AV
set_option linter.all false
open Go.RowKit (Below)
variable {P : Program} {N : Nat} {env : Env} {o : Oper} {H : HH} {ops : Array Oper} {l : List Oper} {K : Env → HH → Prop} {Q : Exit → Env → HH → Prop}

def Tok.toks : Tok → List Nat
  | .cap t _ => [t]
  | _ => []
def toksOf : List Tok → List Nat
  | [] => []
  | t :: ts => t.toks ++ toksOf ts
/-- A footprint, its tokens by the slices that hold them. -/
def hh (objs : List (Nat × AObj)) (tks : List Tok) : HH := ⟨objs, toksOf tks⟩

/-- The slice is nil, or holds a token. -/
def Tok.grow (tk : Tok) (n : Nat) (l : List (List VV)) : Prop := (tk = .nl ∧ l = []) ∨ ∃ t, tk = .cap t n

theorem toksOf_nl : ∀ (tks : List Tok) (i : Nat), tks[i]? = some .nl → toksOf (tks.eraseIdx i) = toksOf tks
  | [], i, h => by simp at h
  | t :: ts, 0, h => by simp at h; subst h; simp [toksOf, Tok.toks]
  | t :: ts, i + 1, h => by simp only [List.eraseIdx_cons_succ, toksOf]; rw [toksOf_nl ts i (by simpa using h)]

theorem toksOf_cap {q n : Nat} : ∀ (tks : List Tok) (i : Nat), tks[i]? = some (.cap q n) → ∃ j, (toksOf tks)[j]? = some q ∧ (toksOf tks).eraseIdx j = toksOf (tks.eraseIdx i)
  | [], i, h => by simp at h
  | t :: ts, 0, h => by simp at h; subst h; exact ⟨0, by simp [toksOf, Tok.toks], by simp [toksOf, Tok.toks]⟩
  | t :: ts, i + 1, h => by
    obtain ⟨j, h1, h2⟩ := toksOf_cap ts i (by simpa using h)
    refine ⟨t.toks.length + j, ?_, ?_⟩
    · simp only [toksOf]
      rw [List.getElem?_append_right (by omega), Nat.add_sub_cancel_left]; exact h1
    · simp only [toksOf, List.eraseIdx_cons_succ]
      rw [List.eraseIdx_append_of_length_le (by omega), Nat.add_sub_cancel_left, h2]

theorem w_append {t e n bytes : Nat} {x y : Operand} {tk tk2 : Tok} {l m : List (List VV)} {i : Nat} {objs : List (Nat × AObj)} {tks : List Tok} {K : VV → HH → Prop} (ho : o.op = .call ⟨.builtin .append, #[x, y], #[t, t]⟩) (hT : ElemTy P t e n bytes) (hx : EvO env x (.sl tk l)) (hi : tks[i]? = some tk) (hg : tk.grow n l) (hy : EvO env y (.sl tk2 m))
    (hm : elemsOK n m) (hb : (l.length + m.length) * bytes ≤ 140737488355328) (hp : 0 < bytes) (hK : ∀ t', K (.sl (.cap t' n) (l ++ m)) (hh objs (.cap t' n :: tks.eraseIdx i))) : WOp P o env (hh objs tks) K := by
  have h63 : l.length + m.length ≤ 9223372036854775807 := by
    have : (l.length + m.length) * 1 ≤ (l.length + m.length) * bytes := Nat.mul_le_mul_left _ hp
    omega
  rcases hg with ⟨h1, h2⟩ | ⟨q, h1⟩
  · subst h1; subst h2
    refine w_append_nl ho hT hx hy hm (by simpa using hb) (by simpa using h63) fun t' => ?_
    have := hK t'
    have e : (hh objs tks).pushT t' = hh objs (.cap t' n :: tks.eraseIdx i) := by simp only [HH.pushT, hh, toksOf, Tok.toks, toksOf_nl tks i hi]; rfl
    rw [e]
    simpa using this
  · subst h1
    obtain ⟨j, h3, h4⟩ := toksOf_cap tks i hi
    refine w_append_cap (i := j) ho hT hx h3 hy hm hb h63 fun t' => ?_
    have e : (hh objs tks).swapT j t' = hh objs (.cap t' n :: tks.eraseIdx i) := by simp only [HH.swapT, hh, toksOf, Tok.toks, h4]; rfl
    rw [e]
    exact hK t'

/-! ### Forgetting -/
theorem Step.from {C S w C' S' w' H'} {A B : HH} (h : A.Sub B) (k : Step C S w A C' S' w' H') : Step C S w B C' S' w' H' :=
  ⟨k.ext, k.rel, k.sat, fun o ho hn => k.obj o ho fun hm => hn ((h.o.map _).subset hm), fun o ho hn => k.blk o ho fun hm => hn ((h.o.map _).subset hm), fun t ht hn => k.live t ht fun hm => hn (h.t.subset hm),
    fun o ho => (k.newo o ho).imp (fun hm => (h.o.map _).subset hm) id, fun t ht => (k.newt t ht).imp (fun hm => h.t.subset hm) id⟩

theorem VW.hsub {c : Code} {A : HH} (h : A.Sub H) (k : VW P N c Q env A) : VW P N c Q env H :=
  fun C S w a r s ok => wp_mono (k C S w a r (s.sub h) ok) fun _ _ _ ⟨C', S', env', H', st, ok', q⟩ => ⟨C', S', env', H', st.from h, ok', q⟩

theorem VO.hsub {A : HH} (h : A.Sub H) (k : VO P N ops l K env A) : VO P N ops l K env H :=
  fun C S w a r s ok => wpList_mono (fun _ _ _ ⟨e1, C', S', env', H', st, ok', q⟩ => ⟨e1, C', S', env', H', st.from h, ok', q⟩) _ _ _ (k C S w a r (s.sub h) ok)

theorem toksOf_sub {a b : List Tok} (h : a.Sublist b) : (toksOf a).Sublist (toksOf b) := by
  induction h with
  | slnil => exact List.Sublist.refl _
  | cons a _ ih => simp only [toksOf]; exact ih.trans (List.sublist_append_right _ _)
  | cons_cons a _ ih => simp only [toksOf]; exact List.Sublist.append (List.Sublist.refl _) ih

theorem hh_sub {o1 o2 : List (Nat × AObj)} {t1 t2 : List Tok} (ho : o1.Sublist o2) (ht : t1.Sublist t2) : (hh o1 t1).Sub (hh o2 t2) := ⟨ho, toksOf_sub ht⟩

/-- One value says less than another one. -/
def VLe (v v' : VV) : Prop := ∀ C w rv, Rep C w v rv → Rep C w v' rv
theorem VLe.refl (v : VV) : VLe v v := fun _ _ _ h => h
theorem VLe.sl (tk : Tok) (l : List (List VV)) : VLe (.sl tk l) (.sl .fz l) := fun _ _ _ h => h.imp (fun ⟨h1, h2⟩ => ⟨h1, h2.fz⟩) fun ⟨b, off, cap, n, h1, h2, h3, _⟩ => ⟨b, off, cap, n, h1, h2, h3, trivial⟩
def VLeL : List VV → List VV → Prop
  | [], [] => True
  | v :: vs, u :: us => VLe v u ∧ VLeL vs us
  | _, _ => False
theorem VLeL.rep {C : Ctx} {w : World} : ∀ {vs us : List VV} {rs : List Value}, VLeL vs us → RepL C w vs rs → RepL C w us rs
  | [], [], _, _, h => h
  | v :: vs, u :: us, rs, hl, h => by
    obtain ⟨r, rest, e, h1, h2⟩ := h
    exact ⟨r, rest, e, hl.1 _ _ _ h1, VLeL.rep hl.2 h2⟩
theorem VLe.tup {vs us : List VV} (h : VLeL vs us) : VLe (.tup vs) (.tup us) := fun _ _ _ ⟨rs, e, hl⟩ => ⟨rs, e, h.rep hl⟩
theorem VLe.agg {vs us : List VV} (h : VLeL vs us) : VLe (.agg vs) (.agg us) := fun _ _ _ ⟨rs, e, hl⟩ => ⟨rs, e, h.rep hl⟩

theorem EnvOK.weak {C : Ctx} {w : World} {a : Act} (k : EnvOK C w N env a) {d : Nat} {v v' : VV} (h : lk env.t d = some v) (hv : VLe v v') : EnvOK C w N ⟨(d, v') :: env.t, env.ds⟩ a :=
  ⟨k.size, fun i u hu => by
    rw [lk_cons] at hu
    split at hu
    · rename_i e
      subst e
      cases hu
      obtain ⟨rv, h1, h2⟩ := k.get i v h
      exact ⟨rv, h1, hv _ _ _ h2⟩
    · exact k.get i u hu, k.ds⟩

/-- All that e' says e says, or more. -/
def subW : List (Nat × VV) → List (Nat × VV) → Prop
  | [], _ => True
  | (k, v) :: r, e => (∃ v', lk e k = some v' ∧ VLe v' v) ∧ subW r e
theorem subW_get : ∀ {e' e : List (Nat × VV)}, subW e' e → ∀ k v, lk e' k = some v → ∃ v', lk e k = some v' ∧ VLe v' v
  | [], _, _, k, v, h => by simp [lk] at h
  | (i, u) :: r, e, hs, k, v, h => by
    rw [lk_cons] at h
    split at h
    · rename_i hk; subst hk; cases h; exact hs.1
    · exact subW_get hs.2 k v h
theorem EnvOK.subW {C : Ctx} {w : World} {t' : List (Nat × VV)} {a : Act} (k : EnvOK C w N env a) (h : subW t' env.t) : EnvOK C w N ⟨t', env.ds⟩ a :=
  ⟨k.size, fun i v hv => by
    obtain ⟨v', h1, h2⟩ := subW_get h i v hv
    obtain ⟨rv, h3, h4⟩ := k.get i v' h1
    exact ⟨rv, h3, h2 _ _ _ h4⟩, k.ds⟩
theorem VW.subW {c : Code} {t' : List (Nat × VV)} {ds : List (FuncId × List VV)} (hs : AV.subW t' env.t) (hd : env.ds = ds) (h : VW P N c Q ⟨t', ds⟩ H) : VW P N c Q env H :=
  fun C S w a r s k => by subst hd; exact h C S w a r s (k.subW hs)
theorem VO.subW {t' : List (Nat × VV)} (hs : AV.subW t' env.t) (h : VO P N ops l K ⟨t', env.ds⟩ H) : VO P N ops l K env H :=
  fun C S w a r s k => h C S w a r s (k.subW hs)
theorem VA.subW {fuel : Nat} {listed : Array Bool} {t' : List (Nat × VV)} (hs : AV.subW t' env.t) (h : VA P N ops K fuel listed ⟨t', env.ds⟩ H) : VA P N ops K fuel listed env H :=
  fun C S w a r s k => h C S w a r s (k.subW hs)

theorem VO.weak {d : Nat} {v v' : VV} (h : lk env.t d = some v) (hv : VLe v v') (k : VO P N ops l K ⟨(d, v') :: env.t, env.ds⟩ H) : VO P N ops l K env H :=
  fun C S w a r s ok => k C S w a r s (ok.weak h hv)
theorem VA.weak {fuel : Nat} {listed : Array Bool} {d : Nat} {v v' : VV} (h : lk env.t d = some v) (hv : VLe v v') (k : VA P N ops K fuel listed ⟨(d, v') :: env.t, env.ds⟩ H) : VA P N ops K fuel listed env H :=
  fun C S w a r s ok => k C S w a r s (ok.weak h hv)
theorem VW.weak {c : Code} {d : Nat} {v v' : VV} (h : lk env.t d = some v) (hv : VLe v v') (k : VW P N c Q ⟨(d, v') :: env.t, env.ds⟩ H) : VW P N c Q env H :=
  fun C S w a r s ok => k C S w a r s (ok.weak h hv)

theorem VW.draw {id : Nat} {l : List Oper} (n : Nat) (hm : P.follows .mixedOrders = true) (hn : l.length = n) (h : VA P N l.toArray (fun env' H' => Q .normal env' H') n (Array.replicate n false) env H) : VW P N (.region id l.toArray true) Q env H := by
  subst hn
  exact VW.regionDraw hm h

/-! ### A bool's two cases -/
theorem VO.caseB {d : Nat} {b : Bool} (h : lk env.t d = some (.bool b)) (ht : b = true → VO P N ops l K ⟨(d, .bool true) :: env.t, env.ds⟩ H) (hf : b = false → VO P N ops l K ⟨(d, .bool false) :: env.t, env.ds⟩ H) : VO P N ops l K env H := by
  cases b with
  | true => exact VO.weak h (VLe.refl _) (ht rfl)
  | false => exact VO.weak h (VLe.refl _) (hf rfl)
theorem VA.caseB {fuel : Nat} {listed : Array Bool} {d : Nat} {b : Bool} (h : lk env.t d = some (.bool b)) (ht : b = true → VA P N ops K fuel listed ⟨(d, .bool true) :: env.t, env.ds⟩ H) (hf : b = false → VA P N ops K fuel listed ⟨(d, .bool false) :: env.t, env.ds⟩ H) : VA P N ops K fuel listed env H := by
  cases b with
  | true => exact VA.weak h (VLe.refl _) (ht rfl)
  | false => exact VA.weak h (VLe.refl _) (hf rfl)

/-! ### A function's body -/
theorem VCalls.of_body {f : FuncId} {fn : Func} {c : Code} {args : List VV} {R : VV → HH → Prop} (N : Nat) (ts : List Tmp) (hf : P.funcs[f]? = some fn) (hb : fn.body = some c)
    (hts : fn.results = (ts.map ResultVar.tmp).toArray) (hN : fn.ntmps = N) (hn : args.length ≤ N)
    (h : VW P N c (fun e env' H' => (e = .normal ∨ e = .ret) ∧ env'.ds = [] ∧ ∃ v v' A, resOf env' ts v ∧ VLe v v' ∧ HH.Sub A H' ∧ R v' A) ⟨enumFrom 0 args, []⟩ H) : VCalls P f args H R := by
  subst hN
  have h1 := VCalls.body (R := fun v H' => ∃ v' A, VLe v v' ∧ HH.Sub A H' ∧ R v' A) (ts := ts) hf hb hts hn (h.mono fun e env' H' ⟨h1, h2, v, v', A, h3, h4, h5, h6⟩ => ⟨h1, h2, v, h3, v', A, h4, h5, h6⟩)
  intro C S w ra r s ha
  exact (h1 C S w ra r s ha).mono fun e w' ⟨v, rv, C', S', H', e1, st, rp, v', A, h4, h5, h6⟩ => ⟨v', rv, C', S', A, e1, st.sub h5, h4 _ _ _ rp, h6⟩

/-! ### Facts on types, out of closed equations -/
theorem ElemTy.of {t e n bytes : Nat} (hu : P.underlying t = some (.slice e)) (h : (P.info? e).map (fun i => (i.size, i.bytes, i.zero.map (·.cells.size))) = some (n, bytes, some n)) (hp : 0 < n) : ElemTy P t e n bytes := by
  refine ⟨hu, ?_, hp⟩
  cases hi : P.info? e with
  | none => simp [hi] at h
  | some i =>
    simp only [hi, Option.map_some, Option.some.injEq, Prod.mk.injEq] at h
    cases hz : i.zero with
    | none => simp [hz] at h
    | some z => simp only [hz, Option.map_some, Option.some.injEq] at h; exact ⟨i, z, rfl, h.1, h.2.1, hz, h.2.2⟩
theorem SizeTy.of {t n : Nat} {agg : Bool} {d : TypeDesc} (hu : P.underlying t = some d) (h : (P.info? t).map (·.size) = some n) (ha : isAggB d = agg) : SizeTy P t n agg := by
  refine ⟨?_, d, hu, ha⟩
  cases hi : P.info? t with
  | none => simp [hi] at h
  | some i => exact ⟨i, rfl, by simpa [hi] using h⟩
theorem SliceTy.of {t e n : Nat} (hu : P.underlying t = some (.slice e)) (h : (P.info? e).map (·.size) = some n) : SliceTy P t e n := by
  refine ⟨hu, ?_⟩
  cases hi : P.info? e with
  | none => simp [hi] at h
  | some i => exact ⟨i, rfl, by simpa [hi] using h⟩
theorem ArrTy.of {t len e n : Nat} (hu : P.underlying t = some (.array len e)) (h : (P.info? e).map (·.size) = some n) : ArrTy P t len e n := by
  refine ⟨hu, ?_⟩
  cases hi : P.info? e with
  | none => simp [hi] at h
  | some i => exact ⟨i, rfl, by simpa [hi] using h⟩
theorem zero_of {t : Nat} {n : Nat} {vs : List Value} (h : (P.info? t).map (fun i => (i.size, i.zero.map (·.cells.toList))) = some (n, some vs)) : ∃ i z, P.info? t = some i ∧ i.zero = some z ∧ z.cells.toList = vs ∧ i.size = n := by
  cases hi : P.info? t with
  | none => simp [hi] at h
  | some i =>
    simp only [hi, Option.map_some, Option.some.injEq, Prod.mk.injEq] at h
    cases hz : i.zero with
    | none => simp [hz] at h
    | some z => simp only [hz, Option.map_some, Option.some.injEq] at h; exact ⟨i, z, rfl, hz, h.2, h.1⟩
theorem ZeroTy.of {t : Nat} {vs : List Value} {cs : List VV} (h : (P.info? t).map (fun i => (i.size, i.zero.map (·.cells.toList))) = some (cs.length, some vs)) (hr : ∀ C w, RepL C w cs vs) : ZeroTy P t cs := by
  obtain ⟨i, z, h1, h2, h3, h4⟩ := zero_of h
  exact ⟨i, z, h1, h2, fun C w => by rw [h3]; exact hr C w, h4⟩
theorem MakeTy.of {t e n bytes : Nat} {vs : List Value} {cs : List VV} (hu : P.underlying t = some (.slice e)) (h : (P.info? e).map (fun i => (i.size, i.bytes, i.zero.map (·.cells.toList))) = some (n, bytes, some vs)) (hn : vs.length = n) (hp : 0 < n) (hr : ∀ C w, RepL C w cs vs) : MakeTy P t e n bytes cs := by
  refine ⟨hu, ?_, hp⟩
  cases hi : P.info? e with
  | none => simp [hi] at h
  | some i =>
    simp only [hi, Option.map_some, Option.some.injEq, Prod.mk.injEq] at h
    cases hz : i.zero with
    | none => simp [hz] at h
    | some z =>
      simp only [hz, Option.map_some, Option.some.injEq] at h
      exact ⟨i, z, rfl, h.1, h.2.1, hz, by rw [← hn, ← h.2.2]; simp, fun C w => by rw [h.2.2]; exact hr C w⟩
theorem ArrValTy.of {t len e n : Nat} (m : Nat) {vs : List Value} {cs : List VV} (hu : P.underlying t = some (.array len e)) (he : (P.info? e).map (·.size) = some n) (h : (P.info? t).map (fun i => (i.size, i.zero.map (·.cells.toList))) = some (m, some vs)) (hr : ∀ C w, RepL C w cs vs) : ArrValTy P t len n cs := by
  obtain ⟨i, z, h1, h2, h3, _⟩ := zero_of h
  refine ⟨⟨e, hu, ?_⟩, i, z, h1, h2, fun C w => by rw [h3]; exact hr C w⟩
  cases hi : P.info? e with
  | none => simp [hi] at he
  | some i => exact ⟨i, rfl, by simpa [hi] using he⟩
theorem FieldTy.of {t f off n : Nat} {agg : Bool} {fs : Array Field} {ft : TypeId} (hu : P.underlying t = some (.struct fs)) (hf : (fs[f]?).map (fun g => (g.offset, g.type)) = some (off, ft)) (hs : SizeTy P ft n agg) (hp : 0 < n) : FieldTy P t f off n agg := by
  refine ⟨?_, hp⟩
  cases hg : fs[f]? with
  | none => simp [hg] at hf
  | some g =>
    simp only [hg, Option.map_some, Option.some.injEq, Prod.mk.injEq] at hf
    exact ⟨fs, g, hu, hg, hf.1, by rw [hf.2]; exact hs⟩
theorem FnOK.of {f : FuncId} {fn : Func} (h : P.funcs[f]? = some fn) (h1 : (fn.name == "runtime.NumGoroutine") = false) (h2 : fn.body.isNone = false) : FnOK P f := ⟨fn, h, h1, h2⟩
theorem StructTy.of {t : Nat} (m : Nat) {fs : Array Field} {pl : List (Nat × Nat)} {vs : List Value} {cs : List VV} (hu : P.underlying t = some (.struct fs)) (hp : fs.toList.map (fun f => (P.info? f.type).map fun i => (f.offset, i.size)) = pl.map some)
    (h : (P.info? t).map (fun i => (i.size, i.zero.map (·.cells.toList))) = some (m, some vs)) (hr : ∀ C w, RepL C w cs vs) : StructTy P t pl cs := by
  obtain ⟨i, z, h1, h2, h3, _⟩ := zero_of h
  refine ⟨⟨fs, hu, fun w => ?_⟩, i, z, h1, h2, fun C w => by rw [h3]; exact hr C w⟩
  have key : ∀ (l : List Field) (pl : List (Nat × Nat)) (acc : List (Nat × Nat)), l.map (fun f => (P.info? f.type).map fun i => (f.offset, i.size)) = pl.map some →
      (List.foldlM (fun (bs : Array (Nat × Nat)) (f : Field) => do bs.push <$> (do pure (f.offset, ← sizeOf f.type) : Sem (Nat × Nat))) acc.toArray l).run P w = .ok (acc ++ pl).toArray w := by
    intro l
    induction l with
    | nil => intro pl acc hl; have : pl = [] := by simpa using hl.symm
             subst this; simp [go_sem]
    | cons f l ih =>
      intro pl acc hl
      cases pl with
      | nil => simp at hl
      | cons p pl =>
        simp only [List.map_cons, List.cons.injEq] at hl
        cases hi : P.info? f.type with
        | none => simp [hi] at hl
        | some i =>
          simp only [hi, Option.map_some, Option.some.injEq] at hl
          have hs := run_sizeOf (P := P) (t := f.type) (n := i.size) ⟨i, hi, rfl⟩ w
          have hstep : ((do (acc.toArray.push <$> (do pure (f.offset, ← sizeOf f.type) : Sem (Nat × Nat)) : Sem (Array (Nat × Nat)))) : Sem (Array (Nat × Nat))).run P w = .ok (acc ++ [p]).toArray w := by
            rw [← hl.1]
            simp [go_sem, hs]
          rw [List.foldlM_cons, Sem.run_bind, hstep, Result.andThen_ok, ih pl (acc ++ [p]) hl.2]
          simp
  have := key fs.toList pl [] hp
  rw [Array.mapM_eq_foldlM, ← Array.foldlM_toList]
  simpa using this

/-! ### The plain functions' own words -/
def getI {α : Type} (l : List α) (i : Int) : Option α := if 0 ≤ i then l[i.toNat]? else none
theorem getI_some {α : Type} {l : List α} {i : Int} {x : α} (h : getI l i = some x) : 0 ≤ i ∧ l[i.toNat]? = some x := by
  unfold getI at h
  split at h
  · exact ⟨by assumption, h⟩
  · cases h
theorem bind_some {α β : Type} {x : Option α} {f : α → Option β} {b : β} (h : x.bind f = some b) : ∃ a, x = some a ∧ f a = some b := by
  cases x with
  | none => cases h
  | some a => exact ⟨a, rfl, h⟩
theorem ite_some {α : Type} {c : Prop} [Decidable c] {x : Option α} {b : α} (h : (if c then x else none) = some b) : c ∧ x = some b := by
  split at h
  · exact ⟨by assumption, h⟩
  · cases h
theorem map_get {α : Type} {e : α → List VV} {xs : List α} {i : Nat} {x : α} {cs : List VV} (h : xs[i]? = some x) (he : e x = cs) : (xs.map e)[i]? = some cs := by
  rw [List.getElem?_map, h, ← he]; rfl
def room (n bytes : Nat) : Option Unit := if n * bytes ≤ 140737488355328 then some () else none
theorem room_some {n bytes : Nat} {u : Unit} (h : room n bytes = some u) : n * bytes ≤ 140737488355328 := by
  unfold room at h
  split at h
  · assumption
  · cases h
theorem elemsOK_map {α : Type} {e : α → List VV} {n : Nat} (h : ∀ x, (e x).length = n ∧ (e x).all isScalar = true) (xs : List α) : elemsOK n (xs.map e) := by
  intro c hc
  obtain ⟨x, _, rfl⟩ := List.mem_map.1 hc
  exact h x
theorem elemsLen_map {α : Type} {e : α → List VV} {n : Nat} (h : ∀ x, (e x).length = n ∧ (e x).all isScalar = true) (xs : List α) : ∀ c ∈ xs.map e, c.length = n := fun c hc => (elemsOK_map h xs c hc).1
def w64 (n : Int) : Int := IntKind.i64.wrap n

/-! ### The shapes of what follows -/
theorem thenQ_normal {K : Env → HH → Prop} (h : K env H) : thenQ K Q .normal env H := h
theorem thenQ_exit {K : Env → HH → Prop} {i : Nat} (h : Q (.exit i) env H) : thenQ K Q (.exit i) env H := h
theorem thenQ_ret {K : Env → HH → Prop} (h : Q .ret env H) : thenQ K Q .ret env H := h
theorem blockQ_normal {id : Nat} (h : Q .normal env H) : blockQ id Q .normal env H := h
theorem blockQ_ret {id : Nat} (h : Q .ret env H) : blockQ id Q .ret env H := h
theorem blockQ_hit {id : Nat} (h : Q .normal env H) : blockQ id Q (.exit id) env H := by simp only [blockQ, if_true]; exact h
theorem blockQ_miss {id i : Nat} (hne : (i == id) = false) (h : Q (.exit i) env H) : blockQ id Q (.exit i) env H := by
  have : i ≠ id := by simpa using hne
  simp only [blockQ, if_neg this]; exact h
theorem VW.condT {c : Operand} {x y : Code} (hc : EvO env c (.bool true)) (h : VW P N x Q env H) : VW P N (.cond c x y) Q env H := VW.cond hc (fun _ => h) (fun e => by cases e)
theorem VW.condF {c : Operand} {x y : Code} (hc : EvO env c (.bool false)) (h : VW P N y Q env H) : VW P N (.cond c x y) Q env H := VW.cond hc (fun e => by cases e) (fun _ => h)
theorem perm_erase {α : Type} : ∀ {l : List α} {i : Nat} {x : α}, l[i]? = some x → (x :: l.eraseIdx i).Perm l
  | [], i, x, h => by simp at h
  | y :: l, 0, x, h => by simp at h; subst h; exact List.Perm.refl _
  | y :: l, i + 1, x, h => by
    rw [List.eraseIdx_cons_succ]
    exact (List.Perm.swap _ _ _).trans (List.Perm.cons _ (perm_erase (by simpa using h)))
/-- The objects' order does not matter. -/
theorem VO.front {objs : List (Nat × AObj)} {tks : List Tok} {x : Nat × AObj} (i : Nat) (hi : objs[i]? = some x) (h : VO P N ops l K env (hh (x :: objs.eraseIdx i) tks)) : VO P N ops l K env (hh objs tks) := by
  have hp : (x :: objs.eraseIdx i).Perm objs := perm_erase hi
  intro C S w a r s k
  have s' : Sat S (hh (x :: objs.eraseIdx i) tks) := ⟨fun p hm => s.objs p (hp.subset hm), (hp.map Prod.fst).nodup_iff.2 s.nodup, s.toks, s.tnodup⟩
  refine wpList_mono (fun _ _ _ ⟨e1, C', S', env', H', st, ok', q⟩ => ⟨e1, C', S', env', H', ?_, ok', q⟩) _ _ _ (h C S w a r s' k)
  have hm : ∀ o, o ∈ (hh (x :: objs.eraseIdx i) tks).ids ↔ o ∈ (hh objs tks).ids := fun o => (hp.map Prod.fst).mem_iff
  exact ⟨st.ext, st.rel, st.sat, fun o ho hn => st.obj o ho fun hh => hn ((hm o).1 hh), fun o ho hn => st.blk o ho fun hh => hn ((hm o).1 hh), st.live, fun o ho => (st.newo o ho).imp (hm o).1 id, st.newt⟩

end Go.AV
