/- Slices whose elements are written: objects that grow; what is no more written becomes a value. -/
import Derived.Test.YtgclbdndnbgnoaaDoorVk
namespace Go.AV
set_option linter.all false
open Go.RowKit (Below)
variable {P : Program} {N : Nat} {env : Env} {o : Oper} {H : HH} {ops : Array Oper} {l : List Oper} {K : Env → HH → Prop} {Q : Exit → Env → HH → Prop}

/-- The same footprint in another order. -/
structure HH.Eqv (A B : HH) : Prop where
  o : A.objs.Perm B.objs
  t : A.toks.Perm B.toks
theorem HH.Eqv.refl (A : HH) : A.Eqv A := ⟨.refl _, .refl _⟩
theorem HH.Eqv.symm {A B : HH} (h : A.Eqv B) : B.Eqv A := ⟨h.o.symm, h.t.symm⟩
theorem HH.Eqv.trans {A B C : HH} (h : A.Eqv B) (k : B.Eqv C) : A.Eqv C := ⟨h.o.trans k.o, h.t.trans k.t⟩
theorem Sat.eqv {S : AS} {A B : HH} (h : A.Eqv B) (s : Sat S B) : Sat S A :=
  ⟨fun p hp => s.objs p (h.o.subset hp), (h.o.map Prod.fst).nodup_iff.2 s.nodup, fun t ht => s.toks t (h.t.subset ht), h.t.nodup_iff.2 s.tnodup⟩
theorem Step.eqvR {C S w H C' S' w' H'} {A : HH} (h : A.Eqv H') (k : Step C S w H C' S' w' H') : Step C S w H C' S' w' A :=
  ⟨k.ext, k.rel, k.sat.eqv h, k.obj, k.blk, k.live, fun o ho => k.newo o (((h.o.map Prod.fst).mem_iff).1 ho), fun t ht => k.newt t (h.t.subset ht)⟩
theorem Step.eqvL {C S w C' S' w' H'} {A B : HH} (h : A.Eqv B) (k : Step C S w A C' S' w' H') : Step C S w B C' S' w' H' :=
  ⟨k.ext, k.rel, k.sat, fun o ho hn => k.obj o ho fun hm => hn (((h.o.map Prod.fst).mem_iff).1 hm), fun o ho hn => k.blk o ho fun hm => hn (((h.o.map Prod.fst).mem_iff).1 hm), fun t ht hn => k.live t ht fun hm => hn (h.t.subset hm),
    fun o ho => (k.newo o ho).imp (fun hm => ((h.o.map Prod.fst).mem_iff).1 hm) id, fun t ht => (k.newt t ht).imp (fun hm => h.t.subset hm) id⟩

/-! ### Footprints in segments -/
abbrev Seg := List (Nat × AObj)
def hq (sg : List Seg) (tks : List Tok) : HH := hh sg.flatten tks

theorem flat_get {α : Type} : ∀ {sg : List (List α)} {i : Nat} {x : α}, sg[i]? = some [x] → ∃ j, sg.flatten[j]? = some x ∧ ∀ f : α → α, sg.flatten.modify j f = (sg.set i [f x]).flatten
  | [], i, x, h => by simp at h
  | s :: sg, 0, x, h => by
    simp at h
    subst h
    exact ⟨0, by simp, fun f => by simp⟩
  | s :: sg, i + 1, x, h => by
    obtain ⟨j, h1, h2⟩ := flat_get (sg := sg) (i := i) (x := x) (by simpa using h)
    refine ⟨s.length + j, by rw [List.flatten_cons, List.getElem?_append_right (by omega), Nat.add_sub_cancel_left]; exact h1, fun f => ?_⟩
    rw [List.flatten_cons, List.set_cons_succ, List.flatten_cons, ← h2 f]
    apply List.ext_getElem?
    intro k
    rw [List.getElem?_modify, List.getElem?_append, List.getElem?_append]
    by_cases hk : k < s.length
    · simp only [hk, if_true]
      have : ¬ (s.length + j = k) := by omega
      simp [this]
    · simp only [hk, if_false, List.getElem?_modify]
      have : (s.length + j = k) ↔ (j = k - s.length) := by omega
      simp only [this]

theorem flat_front {α : Type} : ∀ {sg : List (List α)} {i : Nat} {b : List α}, sg[i]? = some b → (b ++ (sg.eraseIdx i).flatten).Perm sg.flatten
  | [], i, b, h => by simp at h
  | s :: sg, 0, b, h => by simp at h; subst h; simp
  | s :: sg, i + 1, b, h => by
    have := flat_front (sg := sg) (i := i) (b := b) (by simpa using h)
    rw [List.eraseIdx_cons_succ, List.flatten_cons, List.flatten_cons]
    refine List.Perm.trans ?_ (List.Perm.append_left s this)
    rw [← List.append_assoc, ← List.append_assoc]
    exact List.Perm.append_right _ List.perm_append_comm

theorem VO.eqv {A : HH} (h : A.Eqv H) (k : VO P N ops l K env A) : VO P N ops l K env H := fun C S w a r s ok =>
  wpList_mono (fun _ _ _ ⟨e1, C', S', env', H', st, ok', q⟩ => ⟨e1, C', S', env', H', st.eqvL h, ok', q⟩) _ _ _ (k C S w a r (s.eqv h) ok)
theorem VW.eqv {c : Code} {A : HH} (h : A.Eqv H) (k : VW P N c Q env A) : VW P N c Q env H := fun C S w a r s ok =>
  wp_mono (k C S w a r (s.eqv h) ok) fun _ _ _ ⟨C', S', env', H', st, ok', q⟩ => ⟨C', S', env', H', st.eqvL h, ok', q⟩

/-- A segment comes to the front. -/
theorem hq_front {sg : List Seg} {tks : List Tok} {b : Seg} (i : Nat) (hi : sg[i]? = some b) : (hq (b :: sg.eraseIdx i) tks).Eqv (hq sg tks) := ⟨by simpa [hq, hh] using flat_front hi, .refl _⟩
theorem VW.front {c : Code} {sg : List Seg} {tks : List Tok} {b : Seg} (i : Nat) (hi : sg[i]? = some b) (k : VW P N c Q env (hq (b :: sg.eraseIdx i) tks)) : VW P N c Q env (hq sg tks) := k.eqv (hq_front i hi)
theorem VO.frontS {sg : List Seg} {tks : List Tok} {b : Seg} (i : Nat) (hi : sg[i]? = some b) (k : VO P N ops l K env (hq (b :: sg.eraseIdx i) tks)) : VO P N ops l K env (hq sg tks) := k.eqv (hq_front i hi)

theorem hq_sub {s1 s2 : List Seg} {t1 t2 : List Tok} (ho : s1.Sublist s2) (ht : t1.Sublist t2) : (hq s1 t1).Sub (hq s2 t2) := hh_sub (by
  induction ho with
  | slnil => exact List.Sublist.refl _
  | cons a _ ih => exact ih.trans (by rw [List.flatten_cons]; exact List.sublist_append_right _ _)
  | cons_cons a _ ih => rw [List.flatten_cons, List.flatten_cons]; exact List.Sublist.append (List.Sublist.refl _) ih) ht

/-! ### Objects in segments -/
theorem r_load_q {t n : Nat} {agg : Bool} {x : Operand} {ob off i : Nat} {cs : List VV} {v : VV} {sg : List Seg} {tks : List Tok} (ho : o.op = .load t x) (hs : SizeTy P t n agg) (hx : EvO env x (.ptr ob off)) (hH : sg[i]? = some [(ob, .cells cs)]) (hv : ofCells agg n (cs.drop off) = some v) : ROp P o env (hq sg tks) v := by
  obtain ⟨j, h1, _⟩ := flat_get hH
  exact r_load_p (i := j) ho hs hx h1 hv

theorem w_store_q {T n : Nat} {agg : Bool} {x y : Operand} {ob off i : Nat} {cs : List VV} {v : VV} {K : VV → HH → Prop} {sg : List Seg} {tks : List Tok} (ho : o.op = .store T x y) (hT : SizeTy P T n agg) (hx : EvO env x (.ptr ob off)) (hy : EvO env y v)
    (hH : sg[i]? = some [(ob, .cells cs)]) (hs : okCells v = true) (hn : (cellsOf v).length = n) (hl : off + n ≤ cs.length) (hK : K .any (hq (sg.set i [(ob, .cells (splice cs off (cellsOf v)))]) tks)) : WOp P o env (hq sg tks) K := by
  obtain ⟨j, h1, h2⟩ := flat_get hH
  refine w_store (i := j) ho hT hx hy h1 hs hn hl ?_
  have := h2 fun p => (p.1, .cells (splice cs off (cellsOf v)))
  show K .any ⟨sg.flatten.modify j _, toksOf tks⟩
  rw [this]
  exact hK

theorem w_box_q {E : TypeId} {x : Operand} {v : VV} {K : VV → HH → Prop} {sg : List Seg} {tks : List Tok} (ho : o.op = .box E x) (hx : EvO env x v) (hs : okCells v = true) (hK : ∀ ob, K (.ptr ob 0) (hq ([(ob, .cells (cellsOf v))] :: sg) tks)) : WOp P o env (hq sg tks) K := w_box ho hx hs hK
theorem w_alloc_q {E : TypeId} {cs : List VV} {K : VV → HH → Prop} {sg : List Seg} {tks : List Tok} (ho : o.op = .alloc E) (hz : ZeroTy P E cs) (hK : ∀ ob, K (.ptr ob 0) (hq ([(ob, .cells cs)] :: sg) tks)) : WOp P o env (hq sg tks) K := w_alloc ho hz hK

/-- A call that owns the first segments; the others stay beside it. -/
theorem w_call_q {f : FuncId} {x : Operand} {xs : List Operand} {ts : Array TypeId} {fi ca vs : List VV} {K : VV → HH → Prop} {R : VV → HH → Prop} {sa sg : List Seg} {tks : List Tok} (ho : o.op = .call ⟨.value x, xs.toArray, ts⟩) (hf : FnOK P f) (hx : EvO env x (.func (.func f) fi ca)) (hv : EvL env xs vs)
    (hc : VCalls P f (fi ++ vs ++ ca) (hq sa []) R) (hK : ∀ v H', R v H' → ∃ sb, H' = hq sb [] ∧ K v (hq (sb ++ sg) tks)) : WOp P o env (hq (sa ++ sg) tks) K := by
  refine w_call ho hf hx hv ?_
  have e : ∀ sb, (hq sb []).app (hq sg tks) = hq (sb ++ sg) tks := fun sb => by simp [hq, hh, HH.app, toksOf]
  have := (hc.frame (hq sg tks)).mono (R' := K) fun v H' ⟨A', e1, h⟩ => by
    obtain ⟨sb, h1, h2⟩ := hK v A' h
    subst h1
    rw [e1, e]
    exact h2
  rw [e] at this
  exact this

/-! ### Buffers -/
/-- A slice that is nil, or owns its row: the list's cells, then others. -/
inductive Buf (n : Nat) (l : List (List VV)) : VV → Seg → Prop
  | nil : l = [] → Buf n l (.sl .nl []) []
  | own (ob cap len : Nat) (sl : List VV) : elemsOK n l → len = l.length → len ≤ cap → sl.length = (cap - len) * n → Buf n l (.own ob cap len) [(ob, .cells (l.flatten ++ sl))]

theorem Buf.some {n : Nat} {l : List (List VV)} {v : VV} {b : Seg} (h : Buf n l v b) (hl : 0 < l.length) : ∃ ob cap len sl, v = .own ob cap len ∧ b = [(ob, .cells (l.flatten ++ sl))] ∧ elemsOK n l ∧ len = l.length ∧ len ≤ cap ∧ sl.length = (cap - len) * n := by
  cases h with
  | nil h => subst h; simp at hl
  | own ob cap len sl h1 h2 h3 h4 => exact ⟨ob, cap, len, sl, rfl, rfl, h1, h2, h3, h4⟩

theorem Buf.elems {n : Nat} {l : List (List VV)} {v : VV} {b : Seg} (h : Buf n l v b) : elemsOK n l := by
  cases h with
  | nil h => subst h; intro c hc; simp at hc
  | own _ _ _ _ h1 _ _ _ => exact h1

theorem Buf.val {n : Nat} {l : List (List VV)} {v : VV} {b : Seg} (h : Buf n l v b) : ∀ {C w rv}, Rep C w v rv → ∃ b cap, rv = .slice b l.length cap := by
  intro C w rv hr
  cases h with
  | nil h => subst h; rcases hr with ⟨_, h⟩ | ⟨_, _, _, _, _, _, _, h⟩
             · obtain ⟨b, h⟩ := h.len; exact ⟨b, 0, h⟩
             · exact h.elim
  | own ob cap len sl h1 h2 h3 h4 => subst h2; exact ⟨_, _, hr.2.2⟩

theorem t_len_buf {x : Operand} {t n : Nat} {v : VV} {b : Seg} {l : List (List VV)} {m : Int} (ho : o.op = .call ⟨.builtin .len, #[x], #[t]⟩) (hu : ∃ e, P.underlying t = some (.slice e)) (hx : EvO env x v) (hB : Buf n l v b) (hn : (l.length : Int) = m) : TOp P o env (.int .i64 m) := by
  intro C w N a ok
  obtain ⟨b2, cap, h2⟩ := hB.val (hx.rep ok)
  generalize a.eval = ρ at *
  subst hn
  obtain ⟨e, hu⟩ := hu
  exact ⟨.int .i64 l.length, fun w' => by simp [execOp, ho, go_sem, h2, resolve, invoke, builtin, Builtin.len, Builtin.lenOf, underlying, hu], rfl⟩

theorem t_index_own {t e n : Nat} {x ix : Operand} {ob cap len : Nat} {k : IntKind} {i : Int} {q : Nat} (ho : o.op = .indexAddr t x ix) (hT : SliceTy P t e n) (hx : EvO env x (.own ob cap len)) (hi : EvO env ix (.int k i))
    (h0 : 0 ≤ i) (hl : i < (len : Int)) (hq : i.toNat * n = q) : TOp P o env (.ptr ob q) := by
  intro C w N a ok
  obtain ⟨hob, hc, h1⟩ : Rep C w (.own ob cap len) (a.eval x) := hx.rep ok
  have h2 : a.eval ix = .int k i := hi.rep ok
  generalize a.eval = ρ at *
  subst hq
  refine ⟨.pointer (some ⟨C.σ ob, i.toNat * n, none⟩), fun w' => ?_, hob, rfl⟩
  have := run_sizeOf hT.s w'
  simp [execOp, ho, go_sem, h1, h2, Instr.indexAt, asIntOf, underlying, hT.u, h0, hl, this, addr_add]

theorem drop_elem {n : Nat} {l : List (List VV)} {c sl : List VV} {i f : Nat} (hl : elemsOK n l) (hi : l[i]? = some c) (hf : f ≤ n) : (l.flatten ++ sl).drop (i * n + f) = c.drop f ++ ((l.drop (i + 1)).flatten ++ sl) := by
  induction l generalizing i with
  | nil => simp at hi
  | cons d l ih =>
    have hd := (hl d List.mem_cons_self).1
    cases i with
    | zero =>
      simp at hi
      subst hi
      simp only [Nat.zero_mul, Nat.zero_add, List.drop_succ_cons, List.drop_zero, List.flatten_cons, List.append_assoc]
      rw [List.drop_append_of_le_length (by omega)]
    | succ i =>
      have := ih (fun c hc => hl c (List.mem_cons_of_mem _ hc)) (i := i) (by simpa using hi)
      rw [List.flatten_cons, List.append_assoc, show (i + 1) * n + f = d.length + (i * n + f) by rw [Nat.succ_mul, hd]; omega, List.drop_append, List.drop_eq_nil_of_le (by omega), Nat.add_sub_cancel_left, this]
      simp

theorem splice_elem {n : Nat} {l : List (List VV)} {c sl new : List VV} {i f : Nat} (hl : elemsOK n l) (hi : l[i]? = some c) (hf : f + new.length ≤ n) : splice (l.flatten ++ sl) (i * n + f) new = (l.set i (splice c f new)).flatten ++ sl := by
  induction l generalizing i with
  | nil => simp at hi
  | cons d l ih =>
    have hd := (hl d List.mem_cons_self).1
    cases i with
    | zero =>
      simp at hi
      subst hi
      simp only [Nat.zero_mul, Nat.zero_add, List.set_cons_zero, List.flatten_cons, List.append_assoc, splice]
      rw [List.take_append_of_le_length (by omega), List.drop_append_of_le_length (by omega)]
    | succ i =>
      have := ih (fun c hc => hl c (List.mem_cons_of_mem _ hc)) (i := i) (by simpa using hi)
      unfold splice at this
      unfold splice
      have e1 : (i + 1) * n + f = d.length + (i * n + f) := by rw [Nat.succ_mul, hd]; omega
      rw [List.set_cons_succ, List.flatten_cons, List.flatten_cons, List.append_assoc d, List.append_assoc d, ← this, e1, Nat.add_assoc, List.drop_append, List.take_append,
        List.take_of_length_le (by omega), List.drop_eq_nil_of_le (by omega), Nat.add_sub_cancel_left, Nat.add_sub_cancel_left]
      simp

/-! ### append -/
theorem rep_own {C : Ctx} {S : AS} {w w' : World} (r : Rel C S w) {b cap len : Nat} (h : len ≤ cap) : Rep (C.new b) w' (.own S.next cap len) (.slice (some ⟨b, 0, none⟩) len cap) := by
  unfold Rep
  rw [r.n]
  exact ⟨Nat.lt_succ_self _, h, by simp [Ctx.new]⟩

theorem RepL.anys {C : Ctx} {w : World} : ∀ (rs : List Value), RepL C w (List.replicate rs.length .any) rs
  | [] => rfl
  | r :: rs => ⟨r, rs, rfl, trivial, RepL.anys rs⟩

theorem elemsOK.append {n : Nat} {l m : List (List VV)} (h : elemsOK n l) (k : elemsOK n m) : elemsOK n (l ++ m) := fun c hc => (List.mem_append.1 hc).elim (h c) (k c)

theorem append_buf {C : Ctx} {S : AS} {w : World} {sg : List Seg} {tks : List Tok} (r : Rel C S w) (s : Sat S (hq sg tks)) {t e n bytes ty : Nat} (hT : ElemTy P t e n bytes) {tk2 : Tok} {l m : List (List VV)} {v : VV} {b : Seg} {x y : Value} {i : Nat} (hi : sg[i]? = some b) (hB : Buf n l v b)
    (hx : Rep C w v x) (hy : Rep C w (.sl tk2 m) y) (hm : elemsOK n m) (hb : (l.length + m.length) * bytes ≤ 140737488355328) (hp : 0 < bytes) :
    ∃ rv w' C' S' v' b', (Builtin.append_ #[t, t] ty #[x, y]).run P w = .ok rv w' ∧ Step C S w (hq sg tks) C' S' w' (hq (b' :: sg.eraseIdx i) tks) ∧ Buf n (l ++ m) v' b' ∧ Rep C' w' v' rv := by
  have h63 : l.length + m.length ≤ 9223372036854775807 := by
    have : (l.length + m.length) * 1 ≤ (l.length + m.length) * bytes := Nat.mul_le_mul_left _ hp
    omega
  obtain ⟨ti, z, i1, i2, i3, i4, i5⟩ := hT.i
  have hpos := hT.pos
  have hfr := hq_front (tks := tks) i hi
  have s1 := s.eqv hfr
  -- a new object in place of the old one
  have fresh : ∀ (rs ss : List Value) (cap : Nat), RepL C w (l ++ m).flatten rs → (rs ++ ss).length = cap * n → (l ++ m).length ≤ cap → elemsOK n l →
      ∃ C' S' v' b', Step C S w (hq sg tks) C' S' (w.drew.alloc (.cells (rs.toArray ++ ss.toArray) e)) (hq (b' :: sg.eraseIdx i) tks) ∧ Buf n (l ++ m) v' b' ∧ Rep C' (w.drew.alloc (.cells (rs.toArray ++ ss.toArray) e)) v' (.slice (some ⟨w.heap.size, 0, none⟩) (l ++ m).length cap) := by
    intro rs ss cap h1 h2 h3 h4
    have st1 := Step.drew r s
    have r1 := r.drew Ext.drew
    have hcr : ObjRep (C.new w.drew.heap.size) (w.drew.alloc (.cells (rs ++ ss).toArray e)) w.drew.heap.size (.cells ((l ++ m).flatten ++ List.replicate ss.length .any)) :=
      ⟨rs ++ ss, e, alloc_new _ _, RepL.append (RepL.mono (Ext.alloc r1 _) _ _ (RepL.mono Ext.drew _ _ h1)) (RepL.anys ss)⟩
    have st2 := Step.new r1 st1.sat hcr
    have hsub : (hq ([(S.next, .cells ((l ++ m).flatten ++ List.replicate ss.length .any))] :: sg.eraseIdx i) tks).Sub ((hq sg tks).push S.next (.cells ((l ++ m).flatten ++ List.replicate ss.length .any))) :=
      hq_sub (s2 := [(S.next, .cells ((l ++ m).flatten ++ List.replicate ss.length .any))] :: sg) (List.Sublist.cons_cons _ (List.eraseIdx_sublist _ _)) (List.Sublist.refl _)
    have hrl := h1.get.1
    have hfl := (elems_flat (h4.append hm)).1
    have st3 := (st1.trans r st2).sub hsub
    have e0 : (rs ++ ss).toArray = rs.toArray ++ ss.toArray := by simp
    rw [e0] at st3
    refine ⟨_, _, _, _, st3, .own S.next cap (l ++ m).length (List.replicate ss.length .any) (h4.append hm) rfl h3 ?_, ?_⟩
    · rw [List.length_replicate, Nat.sub_mul, ← h2, List.length_append, ← hrl, hfl]; omega
    · exact rep_own r1 h3
  -- nothing is appended
  have same : m = [] → (∃ b c, y = .slice b 0 c) → ∃ rv w' C' S' v' b', (Builtin.append_ #[t, t] ty #[x, y]).run P w = .ok rv w' ∧ Step C S w (hq sg tks) C' S' w' (hq (b' :: sg.eraseIdx i) tks) ∧ Buf n (l ++ m) v' b' ∧ Rep C' w' v' rv := by
    intro hm0 ⟨b2, c2, hy0⟩
    subst hm0; subst hy0
    refine ⟨x, w, C, S, v, b, ?_, (Step.refl r s).eqvR hfr, by simpa using hB, hx⟩
    obtain ⟨bx, capx, hx0⟩ := hB.val hx
    cases hB with
    | nil h =>
      subst h
      have hx1 : x = .slice none 0 0 := by
        rcases hx with ⟨_, h⟩ | ⟨_, _, _, _, _, _, _, h⟩
        · exact h.resolve_right fun hh => by cases hh.1
        · exact h.elim
      subst hx1
      cases b2 <;> simp [Builtin.append_, run_underlying hT.u, sizeOf, typeInfo, i1, Builtin.lenOf, Builtin.firstCells, loadCells, loadCellsFrom]
    | own ob cap len sl h1 h2 h3 h4 =>
      obtain ⟨_, hc, hx1⟩ := hx
      subst hx1
      cases b2 <;> simp [Builtin.append_, run_underlying hT.u, sizeOf, typeInfo, i1, Builtin.lenOf, Builtin.firstCells, loadCells, loadCellsFrom, hc, storeCells]
  rcases src_cells hy hm with ⟨hm0, hy0⟩ | ⟨b2, off2, cap2, rs, hy0, hlen, hcell, hrep, hone⟩
  · exact same hm0 hy0
  · rcases Nat.eq_zero_or_pos m.length with h0 | h0
    · exact same (List.eq_nil_of_length_eq_zero h0) ⟨_, _, by rw [hy0, h0]⟩
    · subst hy0
      cases hB with
      | nil h =>
        subst h
        have hx1 : x = .slice none 0 0 := by
          rcases hx with ⟨_, h⟩ | ⟨_, _, _, _, _, _, _, h⟩
          · exact h.resolve_right fun hh => by cases hh.1
          · exact h.elim
        subst hx1
        simp only [List.length_nil, Nat.zero_add] at hb h63
        have hr := run_append_nil (P := P) w t ty e ti z hT.u i1 i4 ⟨b2, off2, none⟩ m.length cap2 rs (by rw [i2]; exact hlen) hcell h0 (by omega) (by rw [i3]; omega)
        have hge := grownCap_ge w m.length 0 e
        obtain ⟨C', S', v', b', g1, g2, g3⟩ := fresh rs (Builtin.zeroCells z.cells (grownCap w m.length 0 e - m.length)).toList (grownCap w m.length 0 e) (by simpa using hrep) (by
          simp only [List.length_append, Array.length_toList, size_zeroCells, i5, hlen, ← Nat.add_mul]
          congr 1; omega) (by simpa using hge) (fun c hc => by simp at hc)
        exact ⟨_, _, C', S', v', b', hr, by simpa using g1, g2, by simpa using g3⟩
      | own ob cap len sl h1 h2 h3 h4 =>
        obtain ⟨hob, hc, hx1⟩ := hx
        subst hx1
        subst h2
        have hfl := (elems_flat h1).1
        obtain ⟨j, hj, hmod⟩ := flat_get hi
        obtain ⟨hlt, hBk, os, E, hbk, hL⟩ := r.objs ob _ (s.obj hj)
        have hol := hL.get.1
        have hol2 : os.length = cap * n := by
          rw [← hol, List.length_append, hfl, h4, ← Nat.add_mul]; congr 1; omega
        by_cases hroom : l.length + m.length ≤ cap
        · have hmn : (l.length + m.length) * n ≤ cap * n := Nat.mul_le_mul_right _ hroom
          rw [Nat.add_mul] at hmn
          have hfc := run_firstCells_some (P := P) w ti.size m.length ⟨b2, off2, none⟩ m.length cap2 rs (by rw [i2]; exact hlen) hcell
          have hst := run_storeCells_at P (C.σ ob) (l.length * n) E rs 0 os.toArray w hbk (by simp; omega) hone
          simp only [Nat.add_zero] at hst
          have hrun : (Builtin.append_ #[t, t] ty #[.slice (some ⟨C.σ ob, 0, none⟩) l.length cap, .slice (some ⟨b2, off2, none⟩) m.length cap2]).run P w = .ok (.slice (some ⟨C.σ ob, 0, none⟩) (l.length + m.length) cap)
              (w.setRow (C.σ ob) (os.take (l.length * n) ++ rs ++ os.drop (l.length * n + rs.length)).toArray) := by
            subst i2
            simp [Builtin.append_, run_underlying hT.u, sizeOf, typeInfo, i1, Builtin.lenOf, hroom, hfc, addr_add, hst]
          have hset := setRow_heap w (C.σ ob) os.toArray (os.take (l.length * n) ++ rs ++ os.drop (l.length * n + rs.length)).toArray E (0, 0) hbk
          have honly := OnlyBlk.setRow (cs' := (os.take (l.length * n) ++ rs ++ os.drop (l.length * n + rs.length)).toArray) hbk
          have hext : Ext C w C (w.setRow (C.σ ob) (os.take (l.length * n) ++ rs ++ os.drop (l.length * n + rs.length)).toArray) := Ext.write honly hBk (r.objK ob (by have := s.obj hj; simp at this; rw [this]; simp))
          have ht : RepL C w l.flatten (os.take (l.length * n)) := by
            have := hL.take (l.length * n)
            rwa [← hfl, List.take_left, hfl] at this
          have hd : RepL C w (sl.drop (m.length * n)) (os.drop (l.length * n + rs.length)) := by
            have := hL.drop (l.length * n + rs.length)
            rw [← hfl, List.drop_append, List.drop_eq_nil_of_le (by omega), Nat.add_sub_cancel_left, List.nil_append, hfl] at this
            rwa [← hlen]
          have stw := Step.write r s hj (c' := .cells ((l ++ m).flatten ++ sl.drop (m.length * n))) honly ⟨_, E, hset, by
            rw [List.flatten_append]
            exact RepL.append (RepL.append (RepL.mono hext _ _ ht) (RepL.mono hext _ _ hrep)) (RepL.mono hext _ _ hd)⟩
          have hE : (hq ([(ob, .cells ((l ++ m).flatten ++ sl.drop (m.length * n)))] :: sg.eraseIdx i) tks).Eqv ((hq sg tks).setAt j (.cells ((l ++ m).flatten ++ sl.drop (m.length * n)))) := by
            have e1 : (hq sg tks).setAt j (.cells ((l ++ m).flatten ++ sl.drop (m.length * n))) = hq (sg.set i [(ob, .cells ((l ++ m).flatten ++ sl.drop (m.length * n)))]) tks := by
              have := hmod fun p => (p.1, .cells ((l ++ m).flatten ++ sl.drop (m.length * n)))
              simp only [hq, hh, HH.setAt, this]
            rw [e1]
            have hli := (List.getElem?_eq_some_iff.1 hi).1
            have := hq_front (sg := sg.set i [(ob, .cells ((l ++ m).flatten ++ sl.drop (m.length * n)))]) (tks := tks) i (b := [(ob, .cells ((l ++ m).flatten ++ sl.drop (m.length * n)))]) (by rw [List.getElem?_set_self hli])
            rwa [List.eraseIdx_set_eq] at this
          have hst2 := stw.eqvR hE
          have hq : (sl.drop (m.length * n)).length = (cap - (l.length + m.length)) * n := by
            rw [List.length_drop, h4, ← Nat.sub_mul]
            congr 1; omega
          have hB2 : Buf n (l ++ m) (.own ob cap (l.length + m.length)) [(ob, .cells ((l ++ m).flatten ++ sl.drop (m.length * n)))] := .own ob cap (l.length + m.length) _ (h1.append hm) (by simp) hroom hq
          exact ⟨_, _, C, _, _, _, hrun, hst2, hB2, ⟨hob, hroom, rfl⟩⟩
        · have hcells : ∀ (j : Nat) (v : Value), (os.take (l.length * n))[j]? = some v → w.cell? ((⟨C.σ ob, 0, none⟩ : Addr).add j) = some v := fun j v hv => by
            rw [addr_add, Nat.zero_add]
            simp only [World.cell?, hbk]
            rw [List.getElem?_take] at hv
            split at hv
            · simpa using hv
            · cases hv
          have ht : RepL C w l.flatten (os.take (l.length * n)) := by
            have := hL.take (l.length * n)
            rwa [← hfl, List.take_left, hfl] at this
          have k1 : (os.take (l.length * n)).length = l.length * n := by rw [← ht.get.1, hfl]
          have hr := run_append_grow (P := P) w t ty e ti z hT.u i1 i4 ⟨C.σ ob, 0, none⟩ l.length cap (os.take (l.length * n)) (by rw [i2]; exact k1) hcells ⟨b2, off2, none⟩ m.length cap2 rs (by rw [i2]; exact hlen) hcell (by omega) (by omega) (by rw [i3]; exact growslice_fits (by omega) hb)
          have hge := grownCap_ge w (l.length + m.length) cap e
          obtain ⟨C', S', v', b', g1, g2, g3⟩ := fresh (os.take (l.length * n) ++ rs) (Builtin.zeroCells z.cells (grownCap w (l.length + m.length) cap e - (l.length + m.length))).toList (grownCap w (l.length + m.length) cap e) (by
              rw [List.flatten_append]; exact ht.append hrep) (by
            simp only [List.length_append, Array.length_toList, size_zeroCells, i5, hlen, k1, ← Nat.add_mul]
            congr 1; omega) (by simpa using hge) h1
          exact ⟨_, _, C', S', v', b', hr, by simpa using g1, g2, by simpa using g3⟩

theorem w_append_buf {t e n bytes : Nat} {x y : Operand} {tk2 : Tok} {l m : List (List VV)} {v : VV} {b : Seg} {i : Nat} {sg : List Seg} {tks : List Tok} {K : VV → HH → Prop} (ho : o.op = .call ⟨.builtin .append, #[x, y], #[t, t]⟩) (hT : ElemTy P t e n bytes) (hx : EvO env x v) (hi : sg[i]? = some b) (hB : Buf n l v b) (hy : EvO env y (.sl tk2 m))
    (hm : elemsOK n m) (hb : (l.length + m.length) * bytes ≤ 140737488355328) (hp : 0 < bytes) (hK : ∀ v' b', Buf n (l ++ m) v' b' → K v' (hq (b' :: sg.eraseIdx i) tks)) : WOp P o env (hq sg tks) K := by
  intro C S w N a r s ok nx Q hn
  obtain ⟨rv, w', C', S', v', b', h3, h4, h5, h6⟩ := append_buf r s (ty := o.type) hT hi hB (hx.rep ok) (hy.rep ok) hm hb hp
  unfold Oper.wp
  rw [exec_append ho h3, Oper.upon_value]
  exact hn _ _ _ _ _ _ h4 h6 (hK v' b' h5)

/-! ### What is no more written becomes a value -/
theorem Step.freeze {C : Ctx} {S : AS} {w : World} {sg : List Seg} {tks : List Tok} (r : Rel C S w) (s : Sat S (hq sg tks)) {n : Nat} {l : List (List VV)} {v : VV} {b : Seg} {i : Nat} (hi : sg[i]? = some b) (hB : Buf n l v b) :
    ∃ C' S', Step C S w (hq sg tks) C' S' w (hq (sg.eraseIdx i) tks) ∧ ∀ rv, Rep C w v rv → Rep C' w (.sl .fz l) rv := by
  cases hB with
  | nil h =>
    subst h
    exact ⟨C, S, (Step.refl r s).sub (hq_sub (List.eraseIdx_sublist _ _) (List.Sublist.refl _)), fun rv hr => VLe.sl _ _ _ _ _ hr⟩
  | own ob cap len sl h1 h2 h3 h4 =>
    subst h2
    obtain ⟨j, hj, hmod⟩ := flat_get hi
    have hS : S.obj ob = some (.cells (l.flatten ++ sl)) := s.obj hj
    obtain ⟨hlt, hBk, os, E, hbk, hL⟩ := r.objs ob _ hS
    have hbs := (Array.getElem?_eq_some_iff.1 hbk).1
    have hfl := (elems_flat h1).1
    let C' : Ctx := { C with K := fun c j => C.K c j ∨ (c = C.σ ob ∧ j < l.length * n) }
    let S' : AS := ⟨S.next, fun x => if x = ob then none else S.obj x, S.live⟩
    have ext : Ext C w C' w := ⟨rfl, Below.refl _ _, Nat.le_refl _, fun _ _ => rfl, fun _ _ h => .inl h, fun _ _ _ => rfl, fun _ _ h => ⟨h, rfl⟩⟩
    have old : ∀ x, S'.obj x ≠ none → x ≠ ob ∧ S.obj x ≠ none := fun x hx => by
      by_cases e : x = ob
      · exact absurd (by simp [S', e]) hx
      · exact ⟨e, by simpa [S', e] using hx⟩
    have hfr := hq_front (tks := tks) i hi
    have s1 := s.eqv hfr
    have nd : ∀ p ∈ (hq (sg.eraseIdx i) tks).objs, p.1 ≠ ob := fun p hp e => by
      have := s1.nodup
      simp only [HH.ids, hq, hh, List.flatten_cons, List.map_append, List.map_cons, List.map_nil, List.singleton_append] at this
      exact (List.nodup_cons.1 this).1 (e ▸ List.mem_map.2 ⟨p, hp, rfl⟩)
    have s2 : Sat S (hq (sg.eraseIdx i) tks) := s.sub (hq_sub (List.eraseIdx_sublist _ _) (List.Sublist.refl _))
    refine ⟨C', S', ⟨ext, ⟨r.n, r.B, fun x c hx => ?_, fun x y hx hy e => r.inj x y (old x hx).2 (old y hy).2 e, fun x hx k hK => ?_, fun c k hK => ?_, fun t b e lim hv ht => ?_, r.tipInj, r.live, fix_ext ext r.fix⟩,
      ⟨fun p hp => ?_, s2.nodup, s2.toks, s2.tnodup⟩, fun x hx hn => ?_, fun _ _ _ => rfl, fun _ _ _ => rfl, fun x hx => .inl ?_, fun t ht => .inl ht⟩, fun rv hr => ?_⟩
    · have hx' : S'.obj x ≠ none := by rw [hx]; simp
      have hne := (old x hx').1
      have hx2 : S.obj x = some c := by simpa [S', hne] using hx
      obtain ⟨k1, k2, k3⟩ := r.objs x c hx2
      exact ⟨k1, k2, k3.mono ext rfl⟩
    · obtain ⟨hne, ho⟩ := old x hx
      rcases hK with hK | ⟨e1, _⟩
      · exact r.objK x ho k hK
      · exact hne (r.inj x ob ho (by rw [hS]; simp) e1)
    · rcases hK with hK | ⟨e1, _⟩
      · exact r.Kin c k hK
      · subst e1; exact hbs
    · obtain ⟨k1, k2, k3, k4, k5⟩ := r.tips t b e lim hv ht
      refine ⟨k1, k2, k3, fun j hj hK => ?_, fun x hx => k5 x (old x hx).2⟩
      rcases hK with hK | ⟨e1, _⟩
      · exact k4 j hj hK
      · exact k5 ob (by rw [hS]; simp) e1.symm
    · have h5 := nd p hp
      simp only [S']
      rw [if_neg h5]
      exact s2.objs p hp
    · simp only [S']
      have : x ≠ ob := fun e => hn (e ▸ List.mem_map.2 ⟨_, List.mem_of_getElem? hj, rfl⟩)
      rw [if_neg this]
    · exact (((hq_sub (List.eraseIdx_sublist _ _) (List.Sublist.refl _) : (hq (sg.eraseIdx i) tks).Sub (hq sg tks)).o.map Prod.fst).subset hx)
    · obtain ⟨_, hc, hr⟩ := hr
      subst hr
      refine .inr ⟨C.σ ob, 0, cap, n, rfl, hc, ?_, trivial⟩
      have ht : RepL C w l.flatten (os.take (l.length * n)) := by
        have := hL.take (l.length * n)
        rwa [← hfl, List.take_left, hfl] at this
      refine RepElems.of l 0 (os.take (l.length * n)) (fun c hc => (h1 c hc).1) (RepL.mono ext _ _ ht) fun j v hj => ?_
      rw [List.getElem?_take] at hj
      split at hj
      · rename_i hjl
        refine ⟨?_, .inr ⟨rfl, by simpa using hjl⟩⟩
        simp only [World.cell?, hbk, Nat.zero_add]
        simpa using hj
      · cases hj

/-- The temporaries that hold the buffer hold its list from now on. -/
def frozen (v u : VV) : List (Nat × VV) → List (Nat × VV) → Prop
  | [], _ => True
  | (k, x) :: r, e => (lk e k = some x ∨ (x = u ∧ lk e k = some v)) ∧ frozen v u r e
theorem frozen_get {v u : VV} : ∀ {e' e : List (Nat × VV)}, frozen v u e' e → ∀ k x, lk e' k = some x → lk e k = some x ∨ (x = u ∧ lk e k = some v)
  | [], _, _, k, x, h => by simp [lk] at h
  | (i, y) :: r, e, hs, k, x, h => by
    rw [lk_cons] at h
    split at h
    · rename_i hk; subst hk; cases h; exact hs.1
    · exact frozen_get hs.2 k x h
theorem EnvOK.freeze {C C' : Ctx} {w : World} {t' : List (Nat × VV)} {a : Act} {v u : VV} (k : EnvOK C w N env a) (ext : Ext C w C' w) (h : frozen v u t' env.t) (hv : ∀ rv, Rep C w v rv → Rep C' w u rv) : EnvOK C' w N ⟨t', env.ds⟩ a :=
  ⟨k.size, fun i x hx => by
    rcases frozen_get h i x hx with h1 | ⟨rfl, h1⟩
    · obtain ⟨rv, h2, h3⟩ := k.get i x h1
      exact ⟨rv, h2, Rep.mono ext _ _ h3⟩
    · obtain ⟨rv, h2, h3⟩ := k.get i v h1
      exact ⟨rv, h2, hv rv h3⟩, RepDs.mono ext _ _ k.ds⟩

theorem VW.freeze {c : Code} {sg : List Seg} {tks : List Tok} {t' : List (Nat × VV)} {ds : List (FuncId × List VV)} {n : Nat} {l : List (List VV)} {v : VV} {b : Seg} (i : Nat) (hi : sg[i]? = some b) (hB : Buf n l v b) (hf : frozen v (.sl .fz l) t' env.t) (hd : env.ds = ds)
    (h : VW P N c Q ⟨t', ds⟩ (hq (sg.eraseIdx i) tks)) : VW P N c Q env (hq sg tks) := by
  intro C S w a r s k
  subst hd
  obtain ⟨C', S', st, hv⟩ := Step.freeze r s hi hB
  exact wp_mono (h C' S' w a st.rel st.sat (k.freeze st.ext hf hv)) fun _ _ _ k => Post.trans r st k
theorem VO.freeze {sg : List Seg} {tks : List Tok} {t' : List (Nat × VV)} {ds : List (FuncId × List VV)} {n : Nat} {l' : List (List VV)} {v : VV} {b : Seg} (i : Nat) (hi : sg[i]? = some b) (hB : Buf n l' v b) (hf : frozen v (.sl .fz l') t' env.t) (hd : env.ds = ds)
    (h : VO P N ops l K ⟨t', ds⟩ (hq (sg.eraseIdx i) tks)) : VO P N ops l K env (hq sg tks) := by
  intro C S w a r s k
  subst hd
  obtain ⟨C', S', st, hv⟩ := Step.freeze r s hi hB
  exact wpList_mono (fun _ _ _ ⟨e1, C2, S2, env2, H2, st2, ok2, q2⟩ => ⟨e1, C2, S2, env2, H2, st.trans r st2, ok2, q2⟩) _ _ _ (h C' S' w a st.rel st.sat (k.freeze st.ext hf hv))

/-! ### New buffers -/
theorem w_make_buf {t e n bytes : Nat} {zs : List VV} {x y : Operand} {k k' : IntKind} {m c : Int} {K : VV → HH → Prop} {sg : List Seg} {tks : List Tok} (ho : o.op = .makeSlice t x y) (hT : MakeTy P t e n bytes zs) (hz : zs.length = n ∧ zs.all isScalar = true) (hx : EvO env x (.int k m)) (hy : EvO env y (.int k' c)) (h0 : 0 ≤ m) (hm : m ≤ c) (hc : c ≤ 9223372036854775807)
    (hb : c * bytes ≤ 281474976710656) (hK : ∀ v b, Buf n (List.replicate m.toNat zs) v b → K v (hq (b :: sg) tks)) : WOp P o env (hq sg tks) K := by
  intro C S w N a r s ok nx Q hn
  have h1 : a.eval x = .int k m := hx.rep ok
  have h2 : a.eval y = .int k' c := hy.rep ok
  obtain ⟨rs, h3, h4, h5⟩ := make_cells hT (k := k) (k' := k') h0 hm hc hb w
  unfold Oper.wp
  rw [exec_make ho (by rw [h1, h2]; exact h3), Oper.upon_value]
  have e1 : (List.replicate c.toNat zs).flatten = (List.replicate m.toNat zs).flatten ++ (List.replicate (c.toNat - m.toNat) zs).flatten := by
    rw [← List.flatten_append, List.replicate_append_replicate]
    congr 2; omega
  have hcr : ObjRep (C.new w.heap.size) (w.alloc (.cells rs.toArray e)) w.heap.size (.cells ((List.replicate m.toNat zs).flatten ++ (List.replicate (c.toNat - m.toNat) zs).flatten)) := ⟨rs, e, alloc_new _ _, by rw [← e1]; exact h4 _ _⟩
  refine hn _ _ _ _ _ (.own S.next c.toNat m.toNat) (Step.new r s hcr) (rep_own r (by omega)) (hK _ [(S.next, _)] (.own _ _ _ _ ?_ (by simp) (by omega) ?_))
  · intro c hc
    rw [List.mem_replicate] at hc
    rw [hc.2]; exact hz
  · simp [hz.1]

end Go.AV
