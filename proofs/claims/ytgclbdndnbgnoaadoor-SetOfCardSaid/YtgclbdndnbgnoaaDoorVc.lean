/- Operations that yield the same whatever the memory is. -/
import Derived.Test.YtgclbdndnbgnoaaDoorVb
import Derived.Walk
namespace Go.AV
set_option linter.all false
open Go.RowKit (Below)
variable {P : Program} {env : Env} {o : Oper}

/-- What is known of a type. -/
structure SliceTy (P : Program) (t e n : Nat) : Prop where
  u : P.underlying t = some (.slice e)
  s : ∃ i, P.info? e = some i ∧ i.size = n
structure ArrTy (P : Program) (t len e n : Nat) : Prop where
  u : P.underlying t = some (.array len e)
  s : ∃ i, P.info? e = some i ∧ i.size = n
def isAggB : TypeDesc → Bool
  | .struct _ | .array _ _ => true
  | _ => false
/-- A type's size; whether its values are aggregates. -/
structure SizeTy (P : Program) (t n : Nat) (agg : Bool) : Prop where
  s : ∃ i, P.info? t = some i ∧ i.size = n
  u : ∃ d, P.underlying t = some d ∧ isAggB d = agg

theorem run_sizeOf {t n : Nat} (h : ∃ i, P.info? t = some i ∧ i.size = n) (w : World) : (sizeOf t).run P w = .ok n w := by
  obtain ⟨i, h1, h2⟩ := h
  simp [sizeOf, typeInfo, go_sem, h1, h2]

theorem run_isAgg {t n : Nat} {agg : Bool} (h : SizeTy P t n agg) (w : World) : (isAgg t).run P w = .ok agg w := by
  obtain ⟨d, h1, h2⟩ := h.u
  subst h2
  unfold isAgg
  cases d <;> simp [underlying, go_sem, h1, isAggB]

theorem t_move {x : Operand} {v : VV} (ho : o.op = .move x) (hx : EvO env x v) : TOp P o env v :=
  fun _ _ _ a k => by
  have h := hx.rep k
  generalize a.eval = ρ at *
  exact ⟨ρ x, fun w' => by simp [execOp, ho, go_sem], h⟩

theorem t_assign {x : Operand} {v : VV} (ho : o.op = .assign x) (hx : EvO env x v) : TOp P o env v :=
  fun _ _ _ a k => by
  have h := hx.rep k
  generalize a.eval = ρ at *
  exact ⟨ρ x, fun w' => by simp [execOp, ho, go_sem], h⟩

theorem t_pick {c x y : Operand} {b : Bool} {v : VV} (ho : o.op = .pick c x y) (hc : EvO env c (.bool b)) (hx : b = true → EvO env x v) (hy : b = false → EvO env y v) : TOp P o env v := by
  intro C w N a k
  have h1 : a.eval c = .bool b := hc.rep k
  cases b with
  | true =>
    have h2 := (hx rfl).rep k
    generalize a.eval = ρ at *
    exact ⟨ρ x, fun w' => by simp [execOp, ho, go_sem, h1, asBool], h2⟩
  | false =>
    have h2 := (hy rfl).rep k
    generalize a.eval = ρ at *
    exact ⟨ρ y, fun w' => by simp [execOp, ho, go_sem, h1, asBool], h2⟩

/-- A binary operation on integers. -/
theorem t_bin {op : BinOp} {xt yt : TypeId} {x y : Operand} {k : IntKind} {m n : Int} {v : VV} {rv : Value} (ho : o.op = .binOp op xt x y yt) (hx : EvO env x (.int k m)) (hy : EvO env y (.int k n))
    (hr : ∀ w, (binOp op xt (.int k m) (.int k n)).run P w = .ok rv w) (hv : ∀ C w, Rep C w v rv) : TOp P o env v := by
  intro C w N a ok
  have h1 : a.eval x = .int k m := hx.rep ok
  have h2 : a.eval y = .int k n := hy.rep ok
  generalize a.eval = ρ at *
  refine ⟨rv, fun w' => ?_, hv C w⟩
  have hg : ∀ w, (eqGuard op xt x y (.int k m) (.int k n)).run P w = .ok () w := fun w => by
    unfold eqGuard
    cases op <;> simp [go_sem]
  simp [execOp, ho, go_sem, h1, h2, hg, hr]

theorem t_add {xt yt : TypeId} {x y : Operand} {k : IntKind} {m n r : Int} (ho : o.op = .binOp .add xt x y yt) (hx : EvO env x (.int k m)) (hy : EvO env y (.int k n)) (hr : k.wrap (m + n) = r) : TOp P o env (.int k r) :=
  t_bin ho hx hy (rv := .int k r) (fun w => by simp [binOp, Op.intArith, go_sem, hr]) fun _ _ => rfl
theorem t_sub {xt yt : TypeId} {x y : Operand} {k : IntKind} {m n r : Int} (ho : o.op = .binOp .sub xt x y yt) (hx : EvO env x (.int k m)) (hy : EvO env y (.int k n)) (hr : k.wrap (m - n) = r) : TOp P o env (.int k r) :=
  t_bin ho hx hy (rv := .int k r) (fun w => by simp [binOp, Op.intArith, go_sem, hr]) fun _ _ => rfl
theorem t_mul {xt yt : TypeId} {x y : Operand} {k : IntKind} {m n r : Int} (ho : o.op = .binOp .mul xt x y yt) (hx : EvO env x (.int k m)) (hy : EvO env y (.int k n)) (hr : k.wrap (m * n) = r) : TOp P o env (.int k r) :=
  t_bin ho hx hy (rv := .int k r) (fun w => by simp [binOp, Op.intArith, go_sem, hr]) fun _ _ => rfl
theorem t_quo {xt yt : TypeId} {x y : Operand} {k : IntKind} {m n r : Int} (ho : o.op = .binOp .quo xt x y yt) (hx : EvO env x (.int k m)) (hy : EvO env y (.int k n)) (hn : n ≠ 0) (hr : k.wrap (m.tdiv n) = r) : TOp P o env (.int k r) :=
  t_bin ho hx hy (rv := .int k r) (fun w => by simp [binOp, Op.intDiv, go_sem, hr, hn]) fun _ _ => rfl
theorem t_rem {xt yt : TypeId} {x y : Operand} {k : IntKind} {m n r : Int} (ho : o.op = .binOp .rem xt x y yt) (hx : EvO env x (.int k m)) (hy : EvO env y (.int k n)) (hn : n ≠ 0) (hr : m.tmod n = r) : TOp P o env (.int k r) :=
  t_bin ho hx hy (rv := .int k r) (fun w => by simp [binOp, Op.intDiv, go_sem, hr, hn]) fun _ _ => rfl

/-- The bits of an integer operation. -/
def ibits (op : BinOp) (k : IntKind) (x y : Int) : Int :=
  let a := BitVec.ofInt k.bits x
  let b := BitVec.ofInt k.bits y
  match op with
  | .and => k.wrap (a &&& b).toNat
  | .or => k.wrap (a ||| b).toNat
  | .xor => k.wrap (a ^^^ b).toNat
  | .andNot => k.wrap (a &&& ~~~b).toNat
  | _ => 0
theorem t_and {xt yt : TypeId} {x y : Operand} {k : IntKind} {m n r : Int} (ho : o.op = .binOp .and xt x y yt) (hx : EvO env x (.int k m)) (hy : EvO env y (.int k n)) (hr : ibits .and k m n = r) : TOp P o env (.int k r) :=
  t_bin ho hx hy (rv := .int k r) (fun w => by subst hr; simp [binOp, Op.intBits, go_sem, ibits]) fun _ _ => rfl
theorem t_or {xt yt : TypeId} {x y : Operand} {k : IntKind} {m n r : Int} (ho : o.op = .binOp .or xt x y yt) (hx : EvO env x (.int k m)) (hy : EvO env y (.int k n)) (hr : ibits .or k m n = r) : TOp P o env (.int k r) :=
  t_bin ho hx hy (rv := .int k r) (fun w => by subst hr; simp [binOp, Op.intBits, go_sem, ibits]) fun _ _ => rfl
theorem t_xor {xt yt : TypeId} {x y : Operand} {k : IntKind} {m n r : Int} (ho : o.op = .binOp .xor xt x y yt) (hx : EvO env x (.int k m)) (hy : EvO env y (.int k n)) (hr : ibits .xor k m n = r) : TOp P o env (.int k r) :=
  t_bin ho hx hy (rv := .int k r) (fun w => by subst hr; simp [binOp, Op.intBits, go_sem, ibits]) fun _ _ => rfl
theorem t_andNot {xt yt : TypeId} {x y : Operand} {k : IntKind} {m n r : Int} (ho : o.op = .binOp .andNot xt x y yt) (hx : EvO env x (.int k m)) (hy : EvO env y (.int k n)) (hr : ibits .andNot k m n = r) : TOp P o env (.int k r) :=
  t_bin ho hx hy (rv := .int k r) (fun w => by subst hr; simp [binOp, Op.intBits, go_sem, ibits]) fun _ _ => rfl

/-- Shifts: the two kinds may differ. -/
def ishl (k : IntKind) (x y : Int) : Int := k.wrap (x * 2 ^ (min y.toNat k.bits))
def ishr (k : IntKind) (x y : Int) : Int := x.fdiv (2 ^ (min y.toNat k.bits))
theorem t_shl {xt yt : TypeId} {x y : Operand} {k k' : IntKind} {m n r : Int} (ho : o.op = .binOp .shl xt x y yt) (hx : EvO env x (.int k m)) (hy : EvO env y (.int k' n)) (hn : 0 ≤ n) (hr : ishl k m n = r) : TOp P o env (.int k r) := by
  intro C w N a ok
  have h1 : a.eval x = .int k m := hx.rep ok
  have h2 : a.eval y = .int k' n := hy.rep ok
  generalize a.eval = ρ at *
  have hn' : ¬ n < 0 := by omega
  refine ⟨.int k r, fun w' => ?_, rfl⟩
  subst hr
  simp [execOp, ho, go_sem, h1, h2, eqGuard, binOp, Op.shift, hn', ishl]
theorem t_shr {xt yt : TypeId} {x y : Operand} {k k' : IntKind} {m n r : Int} (ho : o.op = .binOp .shr xt x y yt) (hx : EvO env x (.int k m)) (hy : EvO env y (.int k' n)) (hn : 0 ≤ n) (hr : ishr k m n = r) : TOp P o env (.int k r) := by
  intro C w N a ok
  have h1 : a.eval x = .int k m := hx.rep ok
  have h2 : a.eval y = .int k' n := hy.rep ok
  generalize a.eval = ρ at *
  have hn' : ¬ n < 0 := by omega
  refine ⟨.int k r, fun w' => ?_, rfl⟩
  subst hr
  simp [execOp, ho, go_sem, h1, h2, eqGuard, binOp, Op.shift, hn', ishr]

/-- Comparisons of integers. -/
def icmp (op : BinOp) (x y : Int) : Bool :=
  match op with
  | .eql => x == y
  | .neq => x != y
  | .lss => decide (x < y)
  | .leq => decide (x ≤ y)
  | .gtr => decide (x > y)
  | .geq => decide (x ≥ y)
  | _ => false
def isCmp : BinOp → Bool
  | .eql | .neq | .lss | .leq | .gtr | .geq => true
  | _ => false
theorem t_cmp {op : BinOp} {xt yt : TypeId} {x y : Operand} {k : IntKind} {m n : Int} {b : Bool} (ho : o.op = .binOp op xt x y yt) (hc : isCmp op = true) (hx : EvO env x (.int k m)) (hy : EvO env y (.int k n)) (hb : icmp op m n = b) : TOp P o env (.bool b) := by
  refine t_bin ho hx hy (rv := .bool b) (fun w => ?_) fun _ _ => rfl
  subst hb
  cases op <;> simp_all [isCmp, binOp, Op.intCmp, go_sem, icmp]

/-- Comparisons of bools. -/
theorem run_equal_bool {t : TypeId} (hu : P.underlying t = some .bool) (m n : Bool) (w : World) : (Op.equal t (.bool m) (.bool n)).run P w = .ok (m == n) w := by
  show (Op.equalIn (9999 + 1) t (.bool m) (.bool n)).run P w = _
  unfold Op.equalIn
  simp [underlying, hu, go_sem]
theorem t_beq {xt yt : TypeId} {x y : Operand} {m n b : Bool} (ho : o.op = .binOp .eql xt x y yt) (hu : P.underlying xt = some .bool) (hx : EvO env x (.bool m)) (hy : EvO env y (.bool n)) (hb : (m == n) = b) : TOp P o env (.bool b) := by
  intro C w N a ok
  have h1 : a.eval x = .bool m := hx.rep ok
  have h2 : a.eval y = .bool n := hy.rep ok
  generalize a.eval = ρ at *
  refine ⟨.bool b, fun w' => ?_, rfl⟩
  subst hb
  have := run_equal_bool hu m n
  simp [execOp, ho, go_sem, h1, h2, eqGuard, binOp, this]
theorem t_bne {xt yt : TypeId} {x y : Operand} {m n b : Bool} (ho : o.op = .binOp .neq xt x y yt) (hu : P.underlying xt = some .bool) (hx : EvO env x (.bool m)) (hy : EvO env y (.bool n)) (hb : (m != n) = b) : TOp P o env (.bool b) := by
  intro C w N a ok
  have h1 : a.eval x = .bool m := hx.rep ok
  have h2 : a.eval y = .bool n := hy.rep ok
  generalize a.eval = ρ at *
  refine ⟨.bool b, fun w' => ?_, rfl⟩
  subst hb
  have := run_equal_bool hu m n
  simp [execOp, ho, go_sem, h1, h2, eqGuard, binOp, this]
  cases m <;> cases n <;> rfl

/-- Comparisons of strings. -/
def scmp (op : BinOp) (x y : ByteArray) : Bool :=
  match op with
  | .eql => x.toList == y.toList
  | .neq => !(x.toList == y.toList)
  | .lss => Op.bytesLess x.toList y.toList
  | .leq => Op.bytesLess x.toList y.toList || x.toList == y.toList
  | .gtr => !(Op.bytesLess x.toList y.toList || x.toList == y.toList)
  | .geq => !Op.bytesLess x.toList y.toList
  | _ => false
theorem t_scmp {op : BinOp} {xt yt : TypeId} {x y : Operand} {m n : ByteArray} {b : Bool} (ho : o.op = .binOp op xt x y yt) (hc : isCmp op = true) (hx : EvO env x (.str m)) (hy : EvO env y (.str n)) (hb : scmp op m n = b) : TOp P o env (.bool b) := by
  intro C w N a ok
  have h1 : a.eval x = .string m := hx.rep ok
  have h2 : a.eval y = .string n := hy.rep ok
  generalize a.eval = ρ at *
  refine ⟨.bool b, fun w' => ?_, rfl⟩
  subst hb
  cases op <;> simp_all [isCmp, execOp, go_sem, eqGuard, binOp, Op.stringOp, scmp]
theorem t_sadd {xt yt : TypeId} {x y : Operand} {m n : ByteArray} (ho : o.op = .binOp .add xt x y yt) (hx : EvO env x (.str m)) (hy : EvO env y (.str n)) (hs : m.size + n.size ≤ 9223372036854775807) : TOp P o env (.str (m ++ n)) := by
  intro C w N a ok
  have h1 : a.eval x = .string m := hx.rep ok
  have h2 : a.eval y = .string n := hy.rep ok
  generalize a.eval = ρ at *
  refine ⟨.string (m ++ n), fun w' => ?_, rfl⟩
  have : ¬ (((m.size + n.size : Nat) : Int) > IntKind.i64.max) := by
    have : IntKind.i64.max = 9223372036854775807 := rfl
    omega
  have h3 : Op.stringOp .add m n = pure (.string (m ++ n)) := by
    unfold Op.stringOp
    simp only [if_neg this]
  simp [execOp, ho, go_sem, h1, h2, eqGuard, binOp, h3]

theorem t_not {xt : TypeId} {x : Operand} {m b : Bool} (ho : o.op = .unOp .not xt x) (hx : EvO env x (.bool m)) (hb : (!m) = b) : TOp P o env (.bool b) := by
  intro C w N a ok
  have h1 : a.eval x = .bool m := hx.rep ok
  generalize a.eval = ρ at *
  refine ⟨.bool b, fun w' => ?_, rfl⟩
  subst hb
  simp [execOp, ho, go_sem, h1, Op.unary]
theorem t_neg {xt : TypeId} {x : Operand} {k : IntKind} {m r : Int} (ho : o.op = .unOp .neg xt x) (hx : EvO env x (.int k m)) (hr : k.wrap (0 - m) = r) : TOp P o env (.int k r) := by
  intro C w N a ok
  have h1 : a.eval x = .int k m := hx.rep ok
  generalize a.eval = ρ at *
  refine ⟨.int k r, fun w' => ?_, rfl⟩
  subst hr
  simp [execOp, ho, go_sem, h1, Op.unary, Op.intArith]

/-- int kinds to each other. -/
theorem t_conv {src dst : TypeId} {x : Operand} {k k' : IntKind} {m r : Int} (ho : o.op = .convert src dst x) (hs : ∃ d, P.underlying src = some d) (hu : P.underlying dst = some (.int k')) (hx : EvO env x (.int k m)) (hr : k'.wrap m = r) : TOp P o env (.int k' r) := by
  intro C w N a ok
  have h1 : a.eval x = .int k m := hx.rep ok
  generalize a.eval = ρ at *
  obtain ⟨d, hd⟩ := hs
  refine ⟨.int k' r, fun w' => ?_, rfl⟩
  subst hr
  simp [execOp, ho, go_sem, h1, convert, underlying, hu, hd, Conv.intToInt]

/-- A part of a tuple. -/
theorem t_extract {x : Operand} {i : Nat} {vs : List VV} {v : VV} (ho : o.op = .extract x i) (hx : EvO env x (.tup vs)) (hv : vs[i]? = some v) : TOp P o env v := by
  intro C w N a ok
  obtain ⟨rs, h1, h2⟩ : Rep C w (.tup vs) (a.eval x) := hx.rep ok
  generalize a.eval = ρ at *
  obtain ⟨r, h3, h4⟩ := h2.get.2 i v hv
  refine ⟨r, fun w' => ?_, h4⟩
  simp [execOp, ho, go_sem, h1, Instr.extract, h3]

/-- len of a slice, a string. -/
theorem sl_len {C : Ctx} {w : World} {tk : Tok} {l : List (List VV)} {rv : Value} (h : Rep C w (.sl tk l) rv) : ∃ b c, rv = .slice b l.length c := by
  rcases h with ⟨h1, h2⟩ | ⟨b, off, cap, n, h2, _⟩
  · obtain ⟨b, hb⟩ := h2.len
    exact ⟨b, 0, by rw [hb, h1]; rfl⟩
  · exact ⟨_, _, h2⟩
theorem t_len {x : Operand} {t : TypeId} {tk : Tok} {l : List (List VV)} {n : Int} (ho : o.op = .call ⟨.builtin .len, #[x], #[t]⟩) (hu : ∃ e, P.underlying t = some (.slice e)) (hx : EvO env x (.sl tk l)) (hn : (l.length : Int) = n) : TOp P o env (.int .i64 n) := by
  intro C w N a ok
  obtain ⟨b, c, h2⟩ := sl_len (hx.rep ok)
  generalize a.eval = ρ at *
  obtain ⟨e, hu⟩ := hu
  subst hn
  refine ⟨.int .i64 l.length, fun w' => ?_, rfl⟩
  simp [execOp, ho, go_sem, resolve, invoke, builtin, Builtin.len_, h2, underlying, hu, goInt]
theorem t_len_ref {x : Operand} {t : TypeId} {ob off len : Nat} {n : Int} (ho : o.op = .call ⟨.builtin .len, #[x], #[t]⟩) (hu : ∃ e, P.underlying t = some (.slice e)) (hx : EvO env x (.ref ob off len)) (hn : (len : Int) = n) : TOp P o env (.int .i64 n) := by
  intro C w N a ok
  obtain ⟨_, _, cap, h2, _⟩ : Rep C w (.ref ob off len) (a.eval x) := hx.rep ok
  generalize a.eval = ρ at *
  obtain ⟨e, hu⟩ := hu
  subst hn
  refine ⟨.int .i64 len, fun w' => ?_, rfl⟩
  simp [execOp, ho, go_sem, resolve, invoke, builtin, Builtin.len_, h2, underlying, hu, goInt]
theorem t_len_str {x : Operand} {t : TypeId} {s : ByteArray} {n : Int} (ho : o.op = .call ⟨.builtin .len, #[x], #[t]⟩) (hu : P.underlying t = some .string) (hx : EvO env x (.str s)) (hn : (s.size : Int) = n) : TOp P o env (.int .i64 n) := by
  intro C w N a ok
  have h2 : a.eval x = .string s := hx.rep ok
  generalize a.eval = ρ at *
  subst hn
  refine ⟨.int .i64 s.size, fun w' => ?_, rfl⟩
  simp [execOp, ho, go_sem, resolve, invoke, builtin, Builtin.len_, h2, underlying, hu, goInt]

theorem t_max {x y : Operand} {ts : Array TypeId} {k : IntKind} {m n r : Int} (ho : o.op = .call ⟨.builtin .max, #[x, y], ts⟩) (hx : EvO env x (.int k m)) (hy : EvO env y (.int k n)) (hr : max m n = r) : TOp P o env (.int k r) := by
  intro C w N a ok
  have h1 : a.eval x = .int k m := hx.rep ok
  have h2 : a.eval y = .int k n := hy.rep ok
  generalize a.eval = ρ at *
  refine ⟨.int k r, fun w' => ?_, rfl⟩
  have : (if n > m then n else m) = r := by omega
  simp [execOp, ho, go_sem, resolve, invoke, builtin, Builtin.max_, Builtin.max2, h1, h2]
  omega
theorem t_min {x y : Operand} {ts : Array TypeId} {k : IntKind} {m n r : Int} (ho : o.op = .call ⟨.builtin .min, #[x, y], ts⟩) (hx : EvO env x (.int k m)) (hy : EvO env y (.int k n)) (hr : min m n = r) : TOp P o env (.int k r) := by
  intro C w N a ok
  have h1 : a.eval x = .int k m := hx.rep ok
  have h2 : a.eval y = .int k n := hy.rep ok
  generalize a.eval = ρ at *
  refine ⟨.int k r, fun w' => ?_, rfl⟩
  simp [execOp, ho, go_sem, resolve, invoke, builtin, Builtin.min_, Builtin.min2, h1, h2]
  omega
end Go.AV
