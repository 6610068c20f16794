/- More of buffers: append of zeros to nil, reslicing; cap of nil. -/
import Derived.Test.YtgclbdndnbgnoaaDoorVm
import Derived.Lib.AppendZeros
namespace Go.AV
set_option linter.all false
open Go.RowKit (Below)
variable {P : Program} {N : Nat} {env : Env} {o : Oper} {H : HH} {ops : Array Oper} {l : List Oper} {K : Env → HH → Prop} {Q : Exit → Env → HH → Prop}

theorem nil_of {C : Ctx} {w : World} {rv : Value} (h : Rep C w (.sl .nl []) rv) : rv = .slice none 0 0 := by
  rcases h with ⟨_, h⟩ | ⟨_, _, _, _, _, _, _, h⟩
  · exact h.resolve_right fun hh => by cases hh.1
  · exact h.elim

theorem t_cap_nl {x : Operand} {t : TypeId} (ho : o.op = .call ⟨.builtin .cap, #[x], #[t]⟩) (hu : ∃ e, P.underlying t = some (.slice e)) (hx : EvO env x (.sl .nl [])) : TOp P o env (.int .i64 0) := by
  intro C w N a ok
  have h2 := nil_of (hx.rep ok)
  generalize a.eval = ρ at *
  obtain ⟨e, hu⟩ := hu
  exact ⟨.int .i64 0, fun w' => by simp [execOp, ho, go_sem, h2, resolve, invoke, builtin, Builtin.cap, underlying, hu], rfl⟩

theorem zeroCells_list (z : Array Value) (m : Nat) : (Builtin.zeroCells z m).toList = (List.replicate m z.toList).flatten := by
  have := range_mod z m
  simp only [Builtin.zeroCells]
  simpa [Nat.mul_comm] using this

theorem w_append_zeros {t ti e n bytes : Nat} {zs : List VV} {x y : Operand} {k kn : IntKind} {m : Int} {K : VV → HH → Prop} {sg : List Seg} {tks : List Tok} (ho : o.op = .call ⟨.builtin .append, #[x, y], #[t, ti]⟩) (hT : MakeTy P t e n bytes zs) (hi : P.underlying ti = some (.int kn)) (hz : zs.length = n ∧ zs.all isScalar = true)
    (hx : EvO env x (.sl .nl [])) (hy : EvO env y (.int k m)) (h0 : 0 < m) (hb : m.toNat * bytes ≤ 140737488355328) (hp : 0 < bytes) (hK : ∀ v b, Buf n (List.replicate m.toNat zs) v b → K v (hq (b :: sg) tks)) : WOp P o env (hq sg tks) K := by
  intro C S w N a r s ok nx Q hn
  have h1 := nil_of (hx.rep ok)
  have h2 : a.eval y = .int k m := hy.rep ok
  obtain ⟨i, z, i1, i2, i3, i4, i5, i6⟩ := hT.i
  have hpos := hT.pos
  have h63 : m.toNat ≤ 140737488355328 := Nat.le_trans (Nat.le_mul_of_pos_right _ hp) hb
  obtain ⟨q, hq'⟩ : ∃ q : Nat, m = q := ⟨m.toNat, by omega⟩
  subst hq'
  simp only [Int.toNat_natCast] at hb h63 hK
  have hr := Go.Lib.run_append_nil_zeros (P := P) w t ti o.type e i z k kn hT.u hi i1 i4 q (by omega) (by omega) (by omega) (by rw [i3]; omega)
  unfold Oper.wp
  rw [exec_append ho (by rw [h1, h2]; exact hr), Oper.upon_value]
  have st1 := Step.drew r s
  have r1 := r.drew Ext.drew
  have hge := grownCap_ge w q 0 e
  have e1 : (Builtin.zeroCells z.cells q ++ Builtin.zeroCells z.cells (grownCap w q 0 e - q)) = ((List.replicate q z.cells.toList).flatten ++ (Builtin.zeroCells z.cells (grownCap w q 0 e - q)).toList).toArray := by
    apply Array.ext'
    simp [zeroCells_list]
  rw [e1]
  have hcr : ObjRep (C.new w.drew.heap.size) (w.drew.alloc (.cells ((List.replicate q z.cells.toList).flatten ++ (Builtin.zeroCells z.cells (grownCap w q 0 e - q)).toList).toArray e)) w.drew.heap.size (.cells ((List.replicate q zs).flatten ++ List.replicate (Builtin.zeroCells z.cells (grownCap w q 0 e - q)).toList.length .any)) :=
    ⟨_, e, alloc_new _ _, RepL.append ((i6 _ _).rep q) (RepL.anys _)⟩
  have st2 := st1.trans r (Step.new r1 st1.sat hcr)
  refine hn _ _ _ _ _ (.own S.next (grownCap w q 0 e) q) st2 (rep_own r1 hge) (hK _ [(S.next, _)] (.own _ _ _ _ ?_ (by simp) hge ?_))
  · intro c hc
    rw [List.mem_replicate] at hc
    rw [hc.2]; exact hz
  · rw [List.length_replicate, Array.length_toList, size_zeroCells, i5]

/-- b[:k]. -/
theorem t_slice_buf {t e n : Nat} {x : Operand} {hi : Option Operand} {l : List (List VV)} {v : VV} {b : Seg} {k : Int} (ho : o.op = .slice t x none hi none) (hT : SliceTy P t e n) (hx : EvO env x v) (hh : EvB env hi l.length k) (hB : Buf n l v b) (h0 : 0 ≤ k) (hk : k ≤ (l.length : Int)) :
    ∃ v2, Buf n (l.take k.toNat) v2 b ∧ TOp P o env v2 := by
  cases hB with
  | nil h =>
    subst h
    have hk0 : k = 0 := by simp at hk; omega
    subst hk0
    refine ⟨.sl .nl [], .nil rfl, fun C w N a ok => ⟨.slice none 0 0, fun w' => exec_slice ho ?_, .inl ⟨rfl, .inl rfl⟩⟩⟩
    have h2 := nil_of (hx.rep ok)
    have hb := run_bounds (P := P) (b := true) (cap := 0) (lo := none) (l := 0) ok rfl hh (by omega) (by omega) (by simp) w'
    have hu := run_underlying hT.u w'
    have hs := run_sizeOf hT.s w'
    rw [h2]
    unfold Instr.sliceAt Instr.slice
    simp only [Sem.run_bind, hu, Result.andThen_ok, Option.map_none]
    simp only [List.length_nil, Int.toNat_zero, Option.map_none] at hb
    simp only [hb, hs, Result.andThen_ok, Sem.run_pure]
    rfl
  | own ob cap len sl h1 h2 h3 h4 =>
    subst h2
    have e1 : l.flatten ++ sl = (l.take k.toNat).flatten ++ ((l.drop k.toNat).flatten ++ sl) := by rw [← List.append_assoc, ← List.flatten_append, List.take_append_drop]
    have hlt : (l.take k.toNat).length = k.toNat := by rw [List.length_take]; omega
    refine ⟨.own ob cap k.toNat, ?_, fun C w N a ok => ?_⟩
    · rw [e1]
      refine .own ob cap k.toNat _ (fun c hc => h1 c (List.mem_of_mem_take hc)) hlt.symm (by omega) ?_
      have := (elems_flat (l := l.drop k.toNat) (fun c hc => h1 c (List.mem_of_mem_drop hc))).1
      rw [List.length_append, this, h4, List.length_drop, ← Nat.add_mul]
      congr 1; omega
    · obtain ⟨hob, hc, h5⟩ : Rep C w (.own ob cap l.length) (a.eval x) := hx.rep ok
      refine ⟨.slice (some ⟨C.σ ob, 0, none⟩) k.toNat cap, fun w' => exec_slice ho ?_, hob, by omega, rfl⟩
      have hb := run_bounds (P := P) (b := true) (cap := cap) (lo := none) (l := 0) ok rfl hh (by omega) (by omega) (by omega) w'
      have hu := run_underlying hT.u w'
      have hs := run_sizeOf hT.s w'
      rw [h5]
      unfold Instr.sliceAt Instr.slice
      simp only [Sem.run_bind, hu, Result.andThen_ok, Option.map_none]
      simp only [Option.map_none] at hb
      simp only [hb, hs, Result.andThen_ok, Sem.run_pure, Option.map_some, addr_add]
      simp

theorem t_slice_nl {t e n : Nat} {x : Operand} {hi : Option Operand} (ho : o.op = .slice t x none hi none) (hT : SliceTy P t e n) (hx : EvO env x (.sl .nl [])) (hh : EvB env hi 0 0) : TOp P o env (.sl .nl []) := by
  intro C w N a ok
  refine ⟨.slice none 0 0, fun w' => exec_slice ho ?_, .inl ⟨rfl, .inl rfl⟩⟩
  have h2 := nil_of (hx.rep ok)
  have hb := run_bounds (P := P) (b := true) (len := 0) (cap := 0) (lo := none) (l := 0) ok rfl hh (by omega) (by omega) (by simp) w'
  have hu := run_underlying hT.u w'
  have hs := run_sizeOf hT.s w'
  rw [h2]
  unfold Instr.sliceAt Instr.slice
  simp only [Sem.run_bind, hu, Result.andThen_ok, Option.map_none]
  simp only [Int.toNat_zero, Option.map_none] at hb
  simp only [hb, hs, Result.andThen_ok, Sem.run_pure]
  rfl

theorem VO.slice_buf {t e n : Nat} {x : Operand} {hi : Option Operand} {m : List (List VV)} {v : VV} {b : Seg} {k : Int} (ho : o.op = .slice t x none hi none) (hT : SliceTy P t e n) (hx : EvO env x v) (hh : EvB env hi m.length k) (hB : Buf n m v b) (h0 : 0 ≤ k) (hk : k ≤ (m.length : Int))
    (hg : o.guard = none) (hd : dstOK o N = true) (hn : ∀ v2, Buf n (m.take k.toNat) v2 b → VO P N ops l K (env.put o.dst v2) H) : VO P N ops (o :: l) K env H := by
  obtain ⟨v2, h1, h2⟩ := t_slice_buf ho hT hx hh hB h0 hk
  exact VO.t h2 hg hd (hn v2 h1)

/-- A function with two results, the first in a cell. -/
theorem VCalls.of_cell2 {f : FuncId} {fn : Func} {c : Code} {args : List VV} {R : VV → HH → Prop} (N t T u : Nat) (hf : P.funcs[f]? = some fn) (hb : fn.body = some c)
    (hts : fn.results = #[.cell t T, .tmp u]) (hN : fn.ntmps = N) (hn : args.length ≤ N)
    (h : VW P N c (fun e env' H' => (e = .normal ∨ e = .ret) ∧ env'.ds = [] ∧ ∃ (ob off i : Nat) (cs : List VV) (n : Nat) (agg : Bool) (v x v2 : VV) (A : HH), lk env'.t t = some (.ptr ob off) ∧ H'.objs[i]? = some (ob, .cells cs) ∧ SizeTy P T n agg ∧ ofCells agg n (cs.drop off) = some v ∧ lk env'.t u = some x ∧ VLe (.tup [v, x]) v2 ∧ HH.Sub A H' ∧ R v2 A) ⟨enumFrom 0 args, []⟩ H) : VCalls P f args H R := by
  subst hN
  intro C S w ra r s ha
  obtain ⟨hl, hg⟩ := ha.get
  refine calls_of_wp hf hb ?_
  refine wp_mono (h C S w _ r s ⟨?_, fun k v hv => ?_, rfl⟩) ?_
  · simp only [Array.size_append, Array.size_replicate, List.size_toArray]; omega
  · obtain ⟨h1, h2⟩ := lk_enumFrom args 0 k v hv
    obtain ⟨rv, h3, h4⟩ := hg k v (by simpa using h2)
    refine ⟨rv, ?_, h4⟩
    have hk : k < ra.length := by
      rcases Nat.lt_or_ge k ra.length with hk | hk
      · exact hk
      · rw [List.getElem?_eq_none hk] at h3; cases h3
    rw [Array.getElem?_append_left (by simpa using hk)]
    simpa using h3
  · intro e a' w' ⟨C', S', env', H', st, ok, he, hds, ob, off, i, cs, n, agg, v, x, v2, A, h1, h2, h3, h4, hx, h5, h6, h7⟩
    obtain ⟨hlt, hp⟩ : Rep C' w' (.ptr ob off) (a'.tmps.getD t undef) := ok.getD h1
    obtain ⟨_, _, rs, E, g1, g2⟩ := st.rel.objs ob _ (st.sat.obj h2)
    have g3 := g2.drop off
    obtain ⟨rv, k1, k2⟩ := run_load_cells (P := P) (b := C'.σ ob) (off := off) h3 g3 (fun j r hj => by
      rw [List.getElem?_drop] at hj
      simp only [World.cell?, g1]
      simpa using hj) h4
    have hp2 : a'.tmps[t]?.getD undef = .pointer (some ⟨C'.σ ob, off, none⟩) := by simpa [Array.getD_eq_getD_getElem?] using hp
    have hr : (results fn a'.tmps).run P w' = .ok (.tuple #[rv, a'.tmps.getD u undef]) w' := by
      simp [results, hts, hp2, asAddr, k1]
    have hrep : Rep C' w' (.tup [v, x]) (.tuple #[rv, a'.tmps.getD u undef]) := ⟨[_, _], rfl, _, _, rfl, k2, _, _, rfl, ok.getD hx, rfl⟩
    have hd : a'.defers = [] := by
      have := ok.ds
      rw [hds] at this
      exact this
    have : a'.defers = [] ∧ ∃ v, (results fn a'.tmps).run P w' = .ok v w' ∧ ∃ v1 rv C' S' H', Ending.returned v = .returned rv ∧ Step C S w H C' S' w' H' ∧ Rep C' w' v1 rv ∧ R v1 H' :=
      ⟨hd, _, hr, v2, _, C', S', A, rfl, st.sub h6, h5 _ _ _ hrep, h7⟩
    rcases he with rfl | rfl
    · exact this
    · exact this

/-! ### Shorter words for printed walks -/
/-- What is kept of what is known, as it stands. -/
inductive Keep (e : List (Nat × VV)) : List (Nat × VV) → Prop where
  | n : Keep e []
  | c (k : Nat) {v : VV} {t : List (Nat × VV)} : lk e k = some v → Keep e t → Keep e ((k, v) :: t)
theorem Keep.sub {e t : List (Nat × VV)} (h : Keep e t) : AV.subW t e := by
  induction h with
  | n => trivial
  | c k hk _ ih => exact ⟨⟨_, hk, VLe.refl _⟩, ih⟩
theorem VW.subK {c : Code} {t' : List (Nat × VV)} (hs : Keep env.t t') (hd : env.ds = []) (h : VW P N c Q ⟨t', []⟩ H) : VW P N c Q env H := VW.subN hs.sub hd h
theorem VO.subK {t' : List (Nat × VV)} (hs : Keep env.t t') (hd : env.ds = []) (h : VO P N ops l K ⟨t', []⟩ H) : VO P N ops l K env H := VO.subN hs.sub hd h

end Go.AV
