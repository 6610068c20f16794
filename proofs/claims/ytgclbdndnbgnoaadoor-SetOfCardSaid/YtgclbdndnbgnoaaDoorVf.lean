/- Rules of operations that change memory: new variables, stores, rows, append; calls. -/
import Derived.Test.YtgclbdndnbgnoaaDoorVe
namespace Go.AV
set_option linter.all false
open Go.RowKit (Below)
variable {P : Program} {env : Env} {o : Oper} {H : HH}

def cellsOf : VV → List VV
  | .agg cs => cs
  | v => [v]
def isScalar : VV → Bool
  | .agg _ | .tup _ | .any => false
  | _ => true
def okCells (v : VV) : Bool := (cellsOf v).all isScalar

theorem scalar_one {C : Ctx} {w : World} {v : VV} {rv : Value} (hs : isScalar v = true) (h : Rep C w v rv) : rv.oneCell' = true ∧ rv.cells = #[rv] := by
  cases v <;> simp [isScalar] at hs <;> unfold Rep at h
  case bool => subst h; exact ⟨rfl, rfl⟩
  case int => subst h; exact ⟨rfl, rfl⟩
  case str => subst h; exact ⟨rfl, rfl⟩
  case ptr => rw [h.2]; exact ⟨rfl, rfl⟩
  case pnil => subst h; exact ⟨rfl, rfl⟩
  case vptr => obtain ⟨_, _, h, _⟩ := h; subst h; exact ⟨rfl, rfl⟩
  case sl =>
    rcases h with ⟨_, h⟩ | ⟨_, _, _, _, h, _⟩
    · obtain ⟨b, h⟩ := h.len; subst h; exact ⟨rfl, rfl⟩
    · subst h; exact ⟨rfl, rfl⟩
  case ref => obtain ⟨_, _, _, h, _⟩ := h; subst h; exact ⟨rfl, rfl⟩
  case own => rw [h.2.2]; exact ⟨rfl, rfl⟩
  case map => rw [h.2]; exact ⟨rfl, rfl⟩
  case mnil => subst h; exact ⟨rfl, rfl⟩
  case func => obtain ⟨_, _, h, _⟩ := h; subst h; exact ⟨rfl, rfl⟩
  case fnil => subst h; exact ⟨rfl, rfl⟩
  case iface => obtain ⟨_, h, _⟩ := h; subst h; exact ⟨rfl, rfl⟩
  case inil => subst h; exact ⟨rfl, rfl⟩

theorem Rep.cells {C : Ctx} {w : World} {v : VV} {rv : Value} (hs : okCells v = true) (h : Rep C w v rv) : RepL C w (cellsOf v) rv.cells.toList := by
  cases v
  case agg cs =>
    unfold Rep at h
    obtain ⟨rs, e, hl⟩ := h
    subst e
    exact hl
  all_goals
    simp only [okCells, cellsOf, List.all_cons, List.all_nil, Bool.and_true] at hs
    rw [(scalar_one hs h).2]
    exact ⟨_, _, rfl, h, rfl⟩

theorem RepL.one {C : Ctx} {w : World} : ∀ {cs : List VV} {rs : List Value}, cs.all isScalar = true → RepL C w cs rs → ∀ r ∈ rs, r.oneCell' = true
  | [], rs, _, h => by unfold RepL at h; subst h; simp
  | c :: cs, rs, hs, h => by
    unfold RepL at h
    obtain ⟨r, rest, e, h1, h2⟩ := h
    subst e
    simp only [List.all_cons, Bool.and_eq_true] at hs
    intro x hx
    rcases List.mem_cons.1 hx with hx | hx
    · subst hx; exact (scalar_one hs.1 h1).1
    · exact RepL.one hs.2 h2 x hx

theorem alloc_new (w : World) (ob : Obj) : (w.alloc ob).heap[w.heap.size]? = some ob := by
  show (w.heap.push ob)[w.heap.size]? = _
  simp

theorem rep_new {C : Ctx} {S : AS} {w w' : World} (r : Rel C S w) {b : Nat} : Rep (C.new b) w' (.ptr S.next 0) (.pointer (some ⟨b, 0, none⟩)) := by
  unfold Rep
  rw [r.n]
  exact ⟨Nat.lt_succ_self _, by simp [Ctx.new]⟩

theorem w_box {E : TypeId} {x : Operand} {v : VV} {K : VV → HH → Prop} (ho : o.op = .box E x) (hx : EvO env x v) (hs : okCells v = true) (hK : ∀ ob, K (.ptr ob 0) (H.push ob (.cells (cellsOf v)))) : WOp P o env H K := by
  intro C S w N a r s ok nx Q hn
  have h1 := Rep.cells hs (hx.rep ok)
  generalize hρ : a.eval = ρ at *
  unfold Oper.wp
  have e : (execOp a.eval o).run P w = .ok (.value (.pointer (some ⟨w.heap.size, 0, none⟩))) (w.alloc (.cells (ρ x).cells E)) := by
    rw [hρ]
    simp [execOp, ho, go_sem, Instr.box, newVar, newRow]
  rw [e, Oper.upon_value]
  have hc : ObjRep (C.new w.heap.size) (w.alloc (.cells (ρ x).cells E)) w.heap.size (.cells (cellsOf v)) :=
    ⟨(ρ x).cells.toList, E, alloc_new _ _, RepL.mono (Ext.alloc r _) _ _ h1⟩
  exact hn _ _ _ _ _ (.ptr S.next 0) (Step.new r s hc) (rep_new r) (hK S.next)

/-- A type's zero value, cell by cell. -/
structure ZeroTy (P : Program) (t : Nat) (cs : List VV) : Prop where
  z : ∃ i z, P.info? t = some i ∧ i.zero = some z ∧ (∀ C w, RepL C w cs z.cells.toList) ∧ i.size = cs.length

theorem w_alloc {E : TypeId} {cs : List VV} {K : VV → HH → Prop} (ho : o.op = .alloc E) (hz : ZeroTy P E cs) (hK : ∀ ob, K (.ptr ob 0) (H.push ob (.cells cs))) : WOp P o env H K := by
  intro C S w N a r s ok nx Q hn
  obtain ⟨i, z, h1, h2, h3, _⟩ := hz.z
  generalize hρ : a.eval = ρ at *
  unfold Oper.wp
  have e : (execOp a.eval o).run P w = .ok (.value (.pointer (some ⟨w.heap.size, 0, none⟩))) (w.alloc (.cells z.cells E)) := by
    rw [hρ]
    simp [execOp, ho, go_sem, Instr.alloc, zeroValue, typeInfo, h1, h2, newVar, newRow]
  rw [e, Oper.upon_value]
  have hc : ObjRep (C.new w.heap.size) (w.alloc (.cells z.cells E)) w.heap.size (.cells cs) :=
    ⟨z.cells.toList, E, alloc_new _ _, h3 _ _⟩
  exact hn _ _ _ _ _ (.ptr S.next 0) (Step.new r s hc) (rep_new r) (hK S.next)

/-! ### Stores -/
def splice (cs : List VV) (off : Nat) (new : List VV) : List VV := cs.take off ++ new ++ cs.drop (off + new.length)

theorem OnlyBlk.setRow {w : World} {b : Nat} {cs cs' : Array Value} {E : TypeId} (_h : w.heap[b]? = some (.cells cs E (0, 0))) : OnlyBlk w (w.setRow b cs') b :=
  ⟨rfl, rfl, rfl, by simp [World.setRow], fun k hk => by simp [World.setRow, Array.getElem?_modify, Ne.symm hk]⟩

theorem w_store {T n : Nat} {agg : Bool} {x y : Operand} {ob off i : Nat} {cs : List VV} {v : VV} {K : VV → HH → Prop} (ho : o.op = .store T x y) (hT : SizeTy P T n agg) (hx : EvO env x (.ptr ob off)) (hy : EvO env y v)
    (hH : H.objs[i]? = some (ob, .cells cs)) (hs : okCells v = true) (hn : (cellsOf v).length = n) (hl : off + n ≤ cs.length) (hK : K .any (H.setAt i (.cells (splice cs off (cellsOf v))))) : WOp P o env H K := by
  intro C S w N a r s ok nx Q hnx
  have h2 := Rep.cells hs (hy.rep ok)
  obtain ⟨hob, h1⟩ : Rep C w (.ptr ob off) (a.eval x) := hx.rep ok
  generalize hρ : a.eval = ρ at *
  obtain ⟨hlt, hB, rs, E, hb, hL⟩ := r.objs ob _ (s.obj hH)
  have hone := RepL.one hs h2
  have hlen := h2.get.1
  have hsz : (ρ y).cells.size = n := by rw [← hn, hlen]; simp
  have hlc := hL.get.1
  have hst := run_storeCells_at P (C.σ ob) off E (ρ y).cells.toList 0 rs.toArray w hb (by simp; omega) hone
  simp only [Nat.add_zero] at hst
  unfold Oper.wp
  have hsize := run_sizeOf hT.s w
  have e : (execOp a.eval o).run P w = .ok .skip (w.setRow (C.σ ob) (rs.take off ++ (ρ y).cells.toList ++ rs.drop (off + (ρ y).cells.toList.length)).toArray) := by
    rw [hρ]
    have e1 : execOp ρ o = (do storeVar T ⟨C.σ ob, off, none⟩ (ρ y); pure .skip) := by
      simp only [execOp, ho, h1, Instr.storeAt, Instr.sureAddr]; rfl
    rw [e1]
    unfold storeVar
    simp only [Sem.run_bind, hsize, Result.andThen_ok, hsz, ne_eq, not_true_eq_false, if_false, hst]
    simp [go_sem]
  rw [e, Oper.upon_skip]
  have hol := OnlyBlk.setRow (cs' := (rs.take off ++ (ρ y).cells.toList ++ rs.drop (off + (ρ y).cells.toList.length)).toArray) hb
  have hext : Ext C w C (w.setRow (C.σ ob) (rs.take off ++ (ρ y).cells.toList ++ rs.drop (off + (ρ y).cells.toList.length)).toArray) := Ext.write hol hB (r.objK ob (by have := s.obj hH; simp at this; rw [this]; simp))
  refine hnx _ _ _ _ _ .any (Step.write r s hH (c' := .cells (splice cs off (cellsOf v))) hol ⟨_, E, setRow_heap w _ _ _ _ _ hb, ?_⟩) trivial hK
  unfold splice
  rw [hlen]
  exact RepL.append (RepL.append (RepL.mono hext _ _ (hL.take off)) (RepL.mono hext _ _ h2)) (RepL.mono hext _ _ (hL.drop _))

/-! ### Calls -/
structure FnOK (P : Program) (f : FuncId) : Prop where
  h : ∃ fn, P.funcs[f]? = some fn ∧ (fn.name == "runtime.NumGoroutine") = false ∧ fn.body.isNone = false

theorem RepL.app3 {C : Ctx} {w : World} {x y z : List VV} {a b c : List Value} (h1 : RepL C w x a) (h2 : RepL C w y b) (h3 : RepL C w z c) : RepL C w (x ++ y ++ z) (a ++ b ++ c) := (h1.append h2).append h3

theorem w_call {f : FuncId} {x : Operand} {xs : List Operand} {ts : Array TypeId} {fi ca vs : List VV} {K : VV → HH → Prop} (ho : o.op = .call ⟨.value x, xs.toArray, ts⟩) (hf : FnOK P f) (hx : EvO env x (.func (.func f) fi ca)) (hv : EvL env xs vs)
    (hc : VCalls P f (fi ++ vs ++ ca) H K) : WOp P o env H K := by
  intro C S w N a r s ok nx Q hn
  obtain ⟨rf, rc, h1, h2, h3⟩ : Rep C w (.func (.func f) fi ca) (a.eval x) := hx.rep ok
  have h4 := hv.rep ok
  generalize hρ : a.eval = ρ at *
  obtain ⟨fn, g1, g2, g3⟩ := hf.h
  unfold Oper.wp
  have e : (execOp a.eval o).run P w = .ok (.enter f (rf ++ xs.map ρ ++ rc).toArray) w := by
    rw [hρ]
    have e2 : (callFunc f (rf ++ xs.map ρ ++ rc).toArray).run P w = .ok (.enter f (rf ++ xs.map ρ ++ rc).toArray) w := by
      unfold callFunc
      simp only [Sem.run_bind, program, Sem.run, Result.andThen_ok, g1, g2, g3, Bool.false_eq_true, if_false]
      rfl
    have e3 : execOp ρ o = callFunc f (rf ++ xs.map ρ ++ rc).toArray := by
      simp only [execOp, ho, resolve, Deferred.ofValue, h1, invoke]
      simp [bind, Sem.bind, pure]
    rw [e3, e2]
  rw [e, Oper.upon_enter]
  refine (hc C S w _ r s (RepL.app3 h2 h4 h3)).mono ?_
  intro e w' ⟨v, rv, C', S', H', he, st, rp, q⟩
  subst he
  exact hn rv w' C' S' H' v st rp q

end Go.AV
