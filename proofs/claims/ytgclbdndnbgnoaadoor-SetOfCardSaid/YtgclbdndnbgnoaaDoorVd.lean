/- Addresses, fields, elements, slicing; loads. -/
import Derived.Test.YtgclbdndnbgnoaaDoorVc
import Derived.Laws.Slices
namespace Go.AV
set_option linter.all false
open Go.RowKit (Below)
variable {P : Program} {env : Env} {o : Oper} {H : HH}

theorem RepCells.drop {C : Ctx} {w : World} : ∀ (i : Nat) (cs : List VV) (b off : Nat), RepCells C w cs b off → RepCells C w (cs.drop i) b (off + i)
  | 0, cs, b, off, h => by simpa using h
  | i + 1, [], b, off, h => by simp [RepCells]
  | i + 1, c :: cs, b, off, h => by
    unfold RepCells at h
    have := RepCells.drop i cs b (off + 1) h.2
    simpa [Nat.add_assoc, Nat.add_comm 1 i] using this

theorem RepElems.get {C : Ctx} {w : World} {n : Nat} : ∀ {l : List (List VV)} {b off : Nat} (_ : RepElems C w n l b off) {i : Nat} {cs : List VV} (_ : l[i]? = some cs),
    cs.length = n ∧ RepCells C w cs b (off + i * n)
  | [], _, _, _, i, cs, hi => by simp at hi
  | c :: l, b, off, h, 0, cs, hi => by
    unfold RepElems at h
    simp at hi
    subst hi
    exact ⟨h.1, by simpa using h.2.1⟩
  | c :: l, b, off, h, i + 1, cs, hi => by
    unfold RepElems at h
    have := RepElems.get h.2.2 (i := i) (cs := cs) (by simpa using hi)
    refine ⟨this.1, ?_⟩
    rw [Nat.succ_mul, ← Nat.add_assoc, Nat.add_right_comm]
    exact this.2

theorem addr_add (b off k : Nat) : Addr.add ⟨b, off, none⟩ k = ⟨b, off + k, none⟩ := by
  unfold Addr.add
  split
  · rename_i h; subst h; rfl
  · rfl

/-- The address of a slice's element. -/
theorem t_indexAddr {t e n : Nat} {x ix : Operand} {tk : Tok} {l : List (List VV)} {k : IntKind} {i : Int} {cs : List VV} (ho : o.op = .indexAddr t x ix) (hT : SliceTy P t e n) (hx : EvO env x (.sl tk l)) (hi : EvO env ix (.int k i))
    (h0 : 0 ≤ i) (hg : l[i.toNat]? = some cs) (hn : cs.length = n) : TOp P o env (.vptr cs) := by
  intro C w N a ok
  have h1 : Rep C w (.sl tk l) (a.eval x) := hx.rep ok
  have h2 : a.eval ix = .int k i := hi.rep ok
  generalize a.eval = ρ at *
  have hlt : i.toNat < l.length := (List.getElem?_eq_some_iff.1 hg).1
  rcases h1 with ⟨h1, _⟩ | ⟨b, off, cap, n', h1, hle, he, _⟩
  · subst h1; simp at hlt
  · have hel := he.get hg
    have hnn : n' = n := hel.1.symm.trans hn
    subst hnn
    refine ⟨.pointer (some ⟨b, off + i.toNat * n', none⟩), fun w' => ?_, b, off + i.toNat * n', rfl, hel.2⟩
    have hlt' : i < (l.length : Int) := by omega
    have := run_sizeOf hT.s w'
    simp [execOp, ho, go_sem, h1, h2, Instr.indexAt, asIntOf, underlying, hT.u, h0, hlt', this, addr_add]

/-- The same of a slice over a mutable object. -/
theorem t_indexAddr_ref {t e n : Nat} {x ix : Operand} {ob off len : Nat} {k : IntKind} {i : Int} {q : Nat} (ho : o.op = .indexAddr t x ix) (hT : SliceTy P t e n) (hx : EvO env x (.ref ob off len)) (hi : EvO env ix (.int k i))
    (h0 : 0 ≤ i) (hl : i < (len : Int)) (hq : off + i.toNat * n = q) : TOp P o env (.ptr ob q) := by
  intro C w N a ok
  obtain ⟨hob, bb, cap, h1, _, hbb⟩ : Rep C w (.ref ob off len) (a.eval x) := hx.rep ok
  have hbb := hbb (by omega)
  subst hbb
  have h2 : a.eval ix = .int k i := hi.rep ok
  generalize a.eval = ρ at *
  subst hq
  refine ⟨.pointer (some ⟨C.σ ob, off + i.toNat * n, none⟩), fun w' => ?_, hob, rfl⟩
  have := run_sizeOf hT.s w'
  simp [execOp, ho, go_sem, h1, h2, Instr.indexAt, asIntOf, underlying, hT.u, h0, hl, this, addr_add]

/-- Of an array behind an address: immutable, mutable. -/
theorem t_indexAddr_arr {t len e n : Nat} {x ix : Operand} {cs : List VV} {k : IntKind} {i : Int} {ds : List VV} (ho : o.op = .indexAddr t x ix) (hT : ArrTy P t len e n) (hx : EvO env x (.vptr cs)) (hi : EvO env ix (.int k i))
    (h0 : 0 ≤ i) (hl : i < (len : Int)) (hd : cs.drop (i.toNat * n) = ds) : TOp P o env (.vptr ds) := by
  intro C w N a ok
  obtain ⟨b, off, h1, hc⟩ : Rep C w (.vptr cs) (a.eval x) := hx.rep ok
  have h2 : a.eval ix = .int k i := hi.rep ok
  generalize a.eval = ρ at *
  subst hd
  refine ⟨.pointer (some ⟨b, off + i.toNat * n, none⟩), fun w' => ?_, b, _, rfl, hc.drop _⟩
  have := run_sizeOf hT.s w'
  simp [execOp, ho, go_sem, h1, h2, Instr.indexAt, asIntOf, underlying, hT.u, h0, hl, this, addr_add, Instr.sureAddr]
theorem t_indexAddr_parr {t len e n : Nat} {x ix : Operand} {ob off : Nat} {k : IntKind} {i : Int} {q : Nat} (ho : o.op = .indexAddr t x ix) (hT : ArrTy P t len e n) (hx : EvO env x (.ptr ob off)) (hi : EvO env ix (.int k i))
    (h0 : 0 ≤ i) (hl : i < (len : Int)) (hq : off + i.toNat * n = q) : TOp P o env (.ptr ob q) := by
  intro C w N a ok
  obtain ⟨hob, h1⟩ : Rep C w (.ptr ob off) (a.eval x) := hx.rep ok
  have h2 : a.eval ix = .int k i := hi.rep ok
  generalize a.eval = ρ at *
  subst hq
  refine ⟨.pointer (some ⟨C.σ ob, off + i.toNat * n, none⟩), fun w' => ?_, hob, rfl⟩
  have := run_sizeOf hT.s w'
  simp [execOp, ho, go_sem, h1, h2, Instr.indexAt, asIntOf, underlying, hT.u, h0, hl, this, addr_add, Instr.sureAddr]

/-- A field of a struct type: where it lies, its size, whether its values are aggregates. -/
structure FieldTy (P : Program) (t f off n : Nat) (agg : Bool) : Prop where
  u : ∃ fs g, P.underlying t = some (.struct fs) ∧ fs[f]? = some g ∧ g.offset = off ∧ SizeTy P g.type n agg
  pos : 0 < n

theorem t_fieldAddr {t f off n : Nat} {agg : Bool} {x : Operand} {cs ds : List VV} (ho : o.op = .fieldAddr t x f) (hT : FieldTy P t f off n agg) (hx : EvO env x (.vptr cs)) (hd : cs.drop off = ds) : TOp P o env (.vptr ds) := by
  intro C w N a ok
  obtain ⟨b, of, h1, hc⟩ : Rep C w (.vptr cs) (a.eval x) := hx.rep ok
  generalize a.eval = ρ at *
  obtain ⟨fs, g, hu, hf, hof, hs⟩ := hT.u
  subst hd; subst hof
  refine ⟨.pointer (some ⟨b, of + g.offset, none⟩), fun w' => ?_, b, _, rfl, hc.drop _⟩
  have h3 := run_sizeOf hs.s w'
  have hn : ¬ n = 0 := by have := hT.pos; omega
  simp [execOp, ho, go_sem, h1, Instr.fieldAt, underlying, hu, hf, Instr.sureAddr, h3, hn]
theorem t_fieldAddr_ptr {t f off n : Nat} {agg : Bool} {x : Operand} {ob of q : Nat} (ho : o.op = .fieldAddr t x f) (hT : FieldTy P t f off n agg) (hx : EvO env x (.ptr ob of)) (hq : of + off = q) : TOp P o env (.ptr ob q) := by
  intro C w N a ok
  obtain ⟨hob, h1⟩ : Rep C w (.ptr ob of) (a.eval x) := hx.rep ok
  generalize a.eval = ρ at *
  obtain ⟨fs, g, hu, hf, hof, hs⟩ := hT.u
  subst hq; subst hof
  refine ⟨.pointer (some ⟨C.σ ob, of + g.offset, none⟩), fun w' => ?_, hob, rfl⟩
  have h3 := run_sizeOf hs.s w'
  have hn : ¬ n = 0 := by have := hT.pos; omega
  simp [execOp, ho, go_sem, h1, Instr.fieldAt, underlying, hu, hf, Instr.sureAddr, h3, hn]

theorem t_nilCheck_ptr {x : Operand} {ob off : Nat} (ho : o.op = .nilCheck x) (hx : EvO env x (.ptr ob off)) : TOp P o env (.ptr ob off) := by
  intro C w N a ok
  obtain ⟨hob, h1⟩ : Rep C w (.ptr ob off) (a.eval x) := hx.rep ok
  generalize a.eval = ρ at *
  exact ⟨_, fun w' => by simp [execOp, ho, go_sem, h1], hob, rfl⟩
theorem t_nilCheck_vptr {x : Operand} {cs : List VV} (ho : o.op = .nilCheck x) (hx : EvO env x (.vptr cs)) : TOp P o env (.vptr cs) := by
  intro C w N a ok
  obtain ⟨b, off, h1, hc⟩ : Rep C w (.vptr cs) (a.eval x) := hx.rep ok
  generalize a.eval = ρ at *
  exact ⟨_, fun w' => by simp [execOp, ho, go_sem, h1], b, off, rfl, hc⟩
theorem t_nilCheck_func {x : Operand} {f : FuncId} {fi ca : List VV} (ho : o.op = .nilCheck x) (hx : EvO env x (.func (.func f) fi ca)) : TOp P o env (.func (.func f) fi ca) := by
  intro C w N a ok
  obtain ⟨rf, rc, h1, h2, h3⟩ : Rep C w (.func (.func f) fi ca) (a.eval x) := hx.rep ok
  generalize a.eval = ρ at *
  exact ⟨_, fun w' => by simp [execOp, ho, go_sem, h1], rf, rc, rfl, h2, h3⟩

/-- Function values. -/
def EvL (env : Env) : List Operand → List VV → Prop
  | [], vs => vs = []
  | x :: xs, vs => ∃ v rest, vs = v :: rest ∧ EvO env x v ∧ EvL env xs rest
theorem EvL.rep {C : Ctx} {w : World} {N : Nat} {a : Act} (k : EnvOK C w N env a) : ∀ {xs : List Operand} {vs : List VV}, EvL env xs vs → RepL C w vs (xs.map a.eval)
  | [], vs, h => by unfold EvL at h; subst h; rfl
  | x :: xs, vs, h => by
    obtain ⟨v, rest, e, h1, h2⟩ := h
    subst e
    exact ⟨_, _, rfl, h1.rep k, EvL.rep k h2⟩
theorem t_makeFunc {fn : Fn} {xs ys : List Operand} {fi ca : List VV} (ho : o.op = .makeFunc fn xs.toArray ys.toArray) (hx : EvL env xs fi) (hy : EvL env ys ca) : TOp P o env (.func fn fi ca) := by
  intro C w N a ok
  have h1 := hx.rep ok
  have h2 := hy.rep ok
  generalize a.eval = ρ at *
  exact ⟨.func fn (xs.map ρ).toArray (ys.map ρ).toArray, fun w' => by simp [execOp, ho, go_sem, Instr.makeFunc], _, _, rfl, h1, h2⟩

theorem t_makeIface {t : TypeId} {x : Operand} {v : VV} (ho : o.op = .makeInterface t x) (hu : ∃ d, P.underlying t = some d ∧ ∀ m, d ≠ .interface m) (hx : EvO env x v) : TOp P o env (.iface t v) := by
  intro C w N a ok
  have h1 := hx.rep ok
  generalize a.eval = ρ at *
  obtain ⟨d, hd, hne⟩ := hu
  refine ⟨.iface t (ρ x), fun w' => ?_, _, rfl, h1⟩
  cases d <;> first | exact absurd rfl (hne _) | simp [execOp, ho, go_sem, Instr.makeInterface, underlying, hd]

/-! ### Values of struct and array types -/
theorem RepL.append {C : Ctx} {w : World} : ∀ {xs ys : List VV} {rs ss : List Value}, RepL C w xs rs → RepL C w ys ss → RepL C w (xs ++ ys) (rs ++ ss)
  | [], ys, rs, ss, h, k => by unfold RepL at h; subst h; simpa using k
  | x :: xs, ys, rs, ss, h, k => by
    unfold RepL at h
    obtain ⟨r, rest, e, h1, h2⟩ := h
    subst e
    exact ⟨r, rest ++ ss, rfl, h1, RepL.append h2 k⟩
theorem RepL.drop {C : Ctx} {w : World} : ∀ (i : Nat) {xs : List VV} {rs : List Value}, RepL C w xs rs → RepL C w (xs.drop i) (rs.drop i)
  | 0, _, _, h => h
  | i + 1, [], rs, h => by unfold RepL at h; subst h; exact rfl
  | i + 1, x :: xs, rs, h => by
    unfold RepL at h
    obtain ⟨r, rest, e, h1, h2⟩ := h
    subst e
    exact RepL.drop i h2
theorem RepL.take {C : Ctx} {w : World} : ∀ (i : Nat) {xs : List VV} {rs : List Value}, RepL C w xs rs → RepL C w (xs.take i) (rs.take i)
  | 0, _, _, _ => by simp [RepL]
  | i + 1, [], rs, h => by unfold RepL at h; subst h; exact rfl
  | i + 1, x :: xs, rs, h => by
    unfold RepL at h
    obtain ⟨r, rest, e, h1, h2⟩ := h
    subst e
    exact ⟨r, rest.take i, rfl, h1, RepL.take i h2⟩

/-- What a variable of a type of that size, aggregate or not, reads as, out of its cells. -/
def ofCells (agg : Bool) (n : Nat) (cs : List VV) : Option VV := if agg then if n ≤ cs.length then some (.agg (cs.take n)) else none else cs[0]?

theorem run_part {t n : Nat} {agg : Bool} (hs : SizeTy P t n agg) {C : Ctx} {w : World} {cs : List VV} {rs : List Value} (h : RepL C w cs rs) (off : Nat) {v : VV} (hv : ofCells agg n (cs.drop off) = some v) :
    ∃ rv, (∀ w', (part t rs.toArray off).run P w' = .ok rv w') ∧ Rep C w v rv := by
  cases agg with
  | true =>
    simp only [ofCells, if_true] at hv
    split at hv
    · cases hv
      refine ⟨.agg ((rs.drop off).take n).toArray, fun w' => ?_, _, rfl, (h.drop off).take n⟩
      have h1 := run_isAgg hs w'
      have h2 := run_sizeOf hs.s w'
      simp [part, go_sem, h1, h2]
    · cases hv
  | false =>
    simp only [ofCells, Bool.false_eq_true, if_false] at hv
    obtain ⟨r, h3, h4⟩ := (h.drop off).get.2 0 v hv
    refine ⟨r, fun w' => ?_, h4⟩
    have h1 := run_isAgg hs w'
    have h5 : rs[off]? = some r := by simpa using h3
    simp [part, go_sem, h1, h5]

theorem t_field {t f off n : Nat} {agg : Bool} {x : Operand} {cs : List VV} {v : VV} (ho : o.op = .field t x f) (hT : FieldTy P t f off n agg) (hx : EvO env x (.agg cs)) (hv : ofCells agg n (cs.drop off) = some v) : TOp P o env v := by
  intro C w N a ok
  obtain ⟨rs, h1, h2⟩ : Rep C w (.agg cs) (a.eval x) := hx.rep ok
  generalize a.eval = ρ at *
  obtain ⟨fs, g, hu, hf, hof, hs⟩ := hT.u
  subst hof
  obtain ⟨rv, hp, hr⟩ := run_part hs h2 g.offset hv
  refine ⟨rv, fun w' => ?_, hr⟩
  have h4 := hp w'
  have h5 := run_isAgg hs w'
  have h6 := run_sizeOf hs.s w'
  simp only [part, go_sem, h5, h6] at h4
  simp [execOp, ho, go_sem, h1, Instr.field, underlying, hu, hf, asAgg, h5, h6]
  cases agg <;> simp_all [go_sem]

end Go.AV
