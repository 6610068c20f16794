/- make, slicing, bytes of strings. -/
import Derived.Test.YtgclbdndnbgnoaaDoorVh
import Derived.Laws.MakeOwn
import Derived.IntWalk
namespace Go.AV
set_option linter.all false
open Go.RowKit (Below)
variable {P : Program} {env : Env} {o : Oper} {H : HH}

theorem range_mod (z : Array Value) : ∀ m : Nat, (List.range (m * z.size)).map (fun j => z[j % z.size]!) = (List.replicate m z.toList).flatten
  | 0 => by simp
  | m + 1 => by
    rw [Nat.succ_mul, List.range_add, List.map_append, range_mod z m, List.replicate_succ', List.flatten_append]
    congr 1
    rw [List.map_map]
    simp only [List.flatten_cons, List.flatten_nil, List.append_nil]
    apply List.ext_getElem?
    intro j
    rw [List.getElem?_map]
    by_cases hj : j < z.size
    · rw [List.getElem?_range hj]
      have h1 : (m * z.size + j) % z.size = j := by rw [Nat.mul_comm, Nat.mul_add_mod, Nat.mod_eq_of_lt hj]
      simp [h1, hj]
    · simp [Nat.le_of_not_lt hj]

theorem RepL.rep {C : Ctx} {w : World} {cs : List VV} {rs : List Value} (h : RepL C w cs rs) : ∀ m : Nat, RepL C w (List.replicate m cs).flatten (List.replicate m rs).flatten
  | 0 => rfl
  | m + 1 => by
    rw [List.replicate_succ, List.replicate_succ, List.flatten_cons, List.flatten_cons]
    exact h.append (RepL.rep h m)

/-- A slice type whose elements' zero cells are known. -/
structure MakeTy (P : Program) (t e n bytes : Nat) (zs : List VV) : Prop where
  u : P.underlying t = some (.slice e)
  i : ∃ i z, P.info? e = some i ∧ i.size = n ∧ i.bytes = bytes ∧ i.zero = some z ∧ z.cells.size = n ∧ ∀ C w, RepL C w zs z.cells.toList
  pos : 0 < n

theorem make_cells {t e n bytes : Nat} {zs : List VV} (hT : MakeTy P t e n bytes zs) {k k' : IntKind} {m c : Int} (h0 : 0 ≤ m) (hm : m ≤ c) (hc : c ≤ 9223372036854775807) (hb : c * bytes ≤ 281474976710656) (w : World) :
    ∃ rs : List Value, (Instr.makeSlice t (.int k m) (.int k' c)).run P w = .ok (.slice (some ⟨w.heap.size, 0, none⟩) m.toNat c.toNat) (w.alloc (.cells rs.toArray e)) ∧ (∀ C w, RepL C w (List.replicate c.toNat zs).flatten rs) ∧ rs.length = c.toNat * n := by
  obtain ⟨i, z, h1, h2, h3, h4, h5, h6⟩ := hT.i
  refine ⟨(List.replicate c.toNat z.cells.toList).flatten, ?_, fun C w => (h6 C w).rep _, ?_⟩
  · have := Go.run_make (P := P) w t e i z hT.u h1 h4 k k' m c h0 hm (by rw [h3, Int.mul_comm]; exact hb) hc
    rw [this]
    congr 3
    apply Array.ext'
    have h7 := range_mod z.cells c.toNat
    simp only [madeCells, h2, ← h5]
    simpa using h7
  · have : ∀ (l : List Value) (c : Nat), l.length = n → (List.replicate c l).flatten.length = c * n := fun l c hl => by simp [hl]
    exact this _ _ (by simpa using h5)

theorem exec_make {x y : Operand} {t : TypeId} {ρ : Operand → Value} {w w' : World} {rv : Value} (ho : o.op = .makeSlice t x y) (h : (Instr.makeSlice t (ρ x) (ρ y)).run P w = .ok rv w') : (execOp ρ o).run P w = .ok (.value rv) w' := by
  have e : execOp ρ o = (do pure (.value (← Instr.makeSlice t (ρ x) (ρ y)))) := by simp only [execOp, ho]
  rw [e]
  simp only [Sem.run_bind, h, Result.andThen_ok, Sem.run_pure]

/-- make([]T, m): a mutable object. -/
theorem w_make {t e n bytes : Nat} {zs : List VV} {x y : Operand} {k k' : IntKind} {m c : Int} {K : VV → HH → Prop} (ho : o.op = .makeSlice t x y) (hT : MakeTy P t e n bytes zs) (hx : EvO env x (.int k m)) (hy : EvO env y (.int k' c)) (h0 : 0 ≤ m) (hm : m ≤ c) (hc : c ≤ 9223372036854775807)
    (hb : c * bytes ≤ 281474976710656) (hK : ∀ ob, K (.ref ob 0 m.toNat) (H.push ob (.cells (List.replicate c.toNat zs).flatten))) : WOp P o env H K := by
  intro C S w N a r s ok nx Q hn
  have h1 : a.eval x = .int k m := hx.rep ok
  have h2 : a.eval y = .int k' c := hy.rep ok
  obtain ⟨rs, h3, h4, h5⟩ := make_cells hT (k := k) (k' := k') h0 hm hc hb w
  unfold Oper.wp
  rw [exec_make ho (by rw [h1, h2]; exact h3), Oper.upon_value]
  have hcr : ObjRep (C.new w.heap.size) (w.alloc (.cells rs.toArray e)) w.heap.size (.cells (List.replicate c.toNat zs).flatten) := ⟨rs, e, alloc_new _ _, h4 _ _⟩
  refine hn _ _ _ _ _ (.ref S.next 0 m.toNat) (Step.new r s hcr) ?_ (hK S.next)
  unfold Rep
  rw [r.n]
  exact ⟨Nat.lt_succ_self _, _, _, rfl, by omega, fun _ => by simp [Ctx.new]⟩

/-- make([]T, 0, c): a slice that may grow. -/
theorem w_make0 {t e n bytes : Nat} {zs : List VV} {x y : Operand} {k k' : IntKind} {c : Int} {K : VV → HH → Prop} (ho : o.op = .makeSlice t x y) (hT : MakeTy P t e n bytes zs) (hx : EvO env x (.int k 0)) (hy : EvO env y (.int k' c)) (hm : 0 ≤ c) (hc : c ≤ 9223372036854775807)
    (hb : c * bytes ≤ 281474976710656) (hK : ∀ t', K (.sl (.cap t' n) []) (H.pushT t')) : WOp P o env H K := by
  intro C S w N a r s ok nx Q hn
  have h1 : a.eval x = .int k 0 := hx.rep ok
  have h2 : a.eval y = .int k' c := hy.rep ok
  obtain ⟨rs, h3, h4, h5⟩ := make_cells hT (k := k) (k' := k') (Int.le_refl 0) hm hc hb w
  unfold Oper.wp
  rw [exec_make ho (by rw [h1, h2]; exact h3), Oper.upon_value]
  have hst : Step C S w H (C.row w.heap.size (0 * n) (c.toNat * n)) S.row (w.alloc (.cells rs.toArray e)) (H.pushT S.next) := Step.row r s (.inl rfl) (by simp [h5])
  have hrp := rep_row r (.inl rfl) (l := []) (os := []) (rs := rs.toArray) (E := e) (n := n) rfl (fun c hc => by simp at hc) (fun j v hj => by simp at hj) (cap := c.toNat) (by simp) (lim := c.toNat * n) rfl
  exact hn _ _ _ _ _ _ hst hrp (hK S.next)

/-! ### Slicing -/
def EvB (env : Env) (x : Option Operand) (d i : Int) : Prop :=
  match x with
  | none => i = d
  | some x => ∃ k, EvO env x (.int k i)

theorem run_bounds {b : Bool} {N : Nat} {C : Ctx} {w : World} {a : Act} (ok : EnvOK C w N env a) {lo hi : Option Operand} {l h : Int} {len cap : Nat} (hl : EvB env lo 0 l) (hh : EvB env hi len h) (h0 : 0 ≤ l) (hlh : l ≤ h) (hle : h ≤ cap) (w' : World) :
    (Instr.sliceBounds b len cap (lo.map a.eval) (hi.map a.eval) none).run P w' = .ok (l.toNat, h.toNat, cap) w' := by
  unfold Instr.sliceBounds
  cases lo with
  | none =>
    have hl : l = 0 := hl
    subst hl
    cases hi with
    | none =>
      have hh : h = len := hh
      subst hh
      simp [go_sem]
    | some y =>
      obtain ⟨k, hy⟩ := hh
      have h2 : a.eval y = .int k h := hy.rep ok
      generalize a.eval = ρ at *
      simp [go_sem, h2, Instr.sliceBound, asIntOf, hle, hlh]
  | some x =>
    obtain ⟨k, hx⟩ := hl
    have h1 : a.eval x = .int k l := hx.rep ok
    cases hi with
    | none =>
      have hh : h = len := hh
      subst hh
      generalize a.eval = ρ at *
      simp [go_sem, h1, Instr.sliceBound, asIntOf, h0, hlh]
    | some y =>
      obtain ⟨k', hy⟩ := hh
      have h2 : a.eval y = .int k' h := hy.rep ok
      generalize a.eval = ρ at *
      have h3 : 0 ≤ h := by omega
      have h4 : l ≤ h.toNat := by omega
      simp [go_sem, h1, h2, Instr.sliceBound, asIntOf, hle, h0, h3]
      intro h5
      omega

theorem RepElems.slice {C : Ctx} {w : World} {n : Nat} : ∀ {l : List (List VV)} {b off : Nat} (i : Nat), RepElems C w n l b off → RepElems C w n (l.drop i) b (off + i * n)
  | l, b, off, 0, h => by simpa using h
  | [], b, off, i + 1, h => by simp [RepElems]
  | c :: l, b, off, i + 1, h => by
    have := RepElems.slice i h.2.2
    simp only [List.drop_succ_cons]
    rw [show off + (i + 1) * n = off + n + i * n by rw [Nat.succ_mul]; omega]
    exact this
theorem RepElems.take {C : Ctx} {w : World} {n : Nat} : ∀ {l : List (List VV)} {b off : Nat} (i : Nat), RepElems C w n l b off → RepElems C w n (l.take i) b off
  | l, b, off, 0, h => by simp [RepElems]
  | [], b, off, i + 1, h => by simp [RepElems]
  | c :: l, b, off, i + 1, h => ⟨h.1, h.2.1, RepElems.take i h.2.2⟩

theorem exec_slice {x : Operand} {lo hi mx : Option Operand} {t : TypeId} {ρ : Operand → Value} {w w' : World} {rv : Value} (ho : o.op = .slice t x lo hi mx) (h : (Instr.sliceAt t (ρ x) (lo.map ρ) (hi.map ρ) (mx.map ρ)).run P w = .ok rv w') : (execOp ρ o).run P w = .ok (.value rv) w' := by
  have e : execOp ρ o = (do pure (.value (← Instr.sliceAt t (ρ x) (lo.map ρ) (hi.map ρ) (mx.map ρ)))) := by simp only [execOp, ho]
  rw [e]
  simp only [Sem.run_bind, h, Result.andThen_ok, Sem.run_pure]

/-- x[lo:hi] of a slice; what is cut at its end grows no more. -/
theorem t_slice {t e n : Nat} {x : Operand} {lo hi : Option Operand} {tk : Tok} {l : List (List VV)} {i j : Int} {m : List (List VV)} (ho : o.op = .slice t x lo hi none) (hT : SliceTy P t e n) (hx : EvO env x (.sl tk l)) (hl : EvB env lo 0 i) (hh : EvB env hi l.length j)
    (h0 : 0 ≤ i) (hij : i ≤ j) (hjl : j ≤ (l.length : Int)) (hn : ∀ c ∈ l, c.length = n) (hm : (l.take j.toNat).drop i.toNat = m) : TOp P o env (.sl .fz m) := by
  intro C w N a ok
  subst hm
  have h1 : Rep C w (.sl tk l) (a.eval x) := hx.rep ok
  rcases h1 with ⟨h1, h2⟩ | ⟨b, off, cap, n', h2, hcap, he, _⟩
  · subst h1
    have hj0 : j = 0 := by simp at hjl; omega
    have hi0 : i = 0 := by omega
    subst hj0; subst hi0
    refine ⟨a.eval x, fun w' => exec_slice ho ?_, .inl ⟨by simp, h2.fz⟩⟩
    have hb := run_bounds (P := P) (b := true) (cap := 0) ok hl hh (by omega) (by omega) (by simp) w'
    have hu := run_underlying hT.u w'
    have hs := run_sizeOf hT.s w'
    rcases h2 with h2 | ⟨_, z, h2⟩
    all_goals
      rw [h2]
      unfold Instr.sliceAt Instr.slice
      simp only [Sem.run_bind, hu, Result.andThen_ok, Option.map_none]
      simp only [List.length_nil, Int.toNat_zero] at hb
      simp only [hb, hs, Result.andThen_ok, Sem.run_pure]
      rfl
  · have hb := fun w' => run_bounds (P := P) (b := true) (cap := cap) ok hl hh h0 hij (by omega) w'
    have key : ∀ w', (Instr.sliceAt t (a.eval x) (lo.map a.eval) (hi.map a.eval) (Option.map a.eval none)).run P w' = .ok (.slice (if cap = i.toNat then some ⟨b, off, none⟩ else some ⟨b, off + i.toNat * n, none⟩) (j.toNat - i.toNat) (cap - i.toNat)) w' := fun w' => by
      have hu := run_underlying hT.u w'
      have hs := run_sizeOf hT.s w'
      rw [h2]
      unfold Instr.sliceAt Instr.slice
      simp only [Sem.run_bind, hu, Result.andThen_ok, Option.map_none]
      have hb := hb w'
      simp only [hb, hs, Result.andThen_ok, Sem.run_pure, Option.map_some, addr_add]
    have hlen : ((l.take j.toNat).drop i.toNat).length = j.toNat - i.toNat := by simp; omega
    by_cases he0 : (l.take j.toNat).drop i.toNat = []
    · refine ⟨_, fun w' => exec_slice ho (key w'), ?_⟩
      rw [he0]
      have hz : j.toNat - i.toNat = 0 := by rw [← hlen, he0]; rfl
      rw [hz]
      right
      by_cases hc : cap = i.toNat
      · rw [if_pos hc]; exact ⟨b, off, _, n, rfl, by simp, trivial, trivial⟩
      · rw [if_neg hc]; exact ⟨b, _, _, n, rfl, by simp, trivial, trivial⟩
    · have hi1 : i.toNat < l.length := by
        rcases Nat.lt_or_ge i.toNat l.length with h | h
        · exact h
        · exact absurd (List.drop_eq_nil_of_le (by simp; omega)) he0
      have hnn : n' = n := by
        cases l with
        | nil => simp at hi1
        | cons c l => rw [← he.1]; exact hn c List.mem_cons_self
      subst hnn
      refine ⟨_, fun w' => exec_slice ho (key w'), .inr ⟨b, off + i.toNat * n', cap - i.toNat, n', ?_, by omega, ?_, trivial⟩⟩
      · rw [if_neg (by omega), hlen]
      · exact (he.take j.toNat).slice i.toNat

/-- x[lo:] of a slice keeps its right to grow. -/
theorem t_slice_tail {t e n : Nat} {x : Operand} {lo hi : Option Operand} {tk : Tok} {l : List (List VV)} {i : Int} {m : List (List VV)} (ho : o.op = .slice t x lo hi none) (hT : SliceTy P t e n) (hx : EvO env x (.sl tk l)) (hl : EvB env lo 0 i) (hh : EvB env hi l.length l.length)
    (h0 : 0 ≤ i) (hij : i ≤ (l.length : Int)) (htn : ∀ q k, tk = .cap q k → k = n) (hn : ∀ c ∈ l, c.length = n) (hm : l.drop i.toNat = m) : TOp P o env (.sl tk m) := by
  intro C w N a ok
  subst hm
  have h1 : Rep C w (.sl tk l) (a.eval x) := hx.rep ok
  rcases h1 with ⟨h1, h2⟩ | ⟨b, off, cap, n', h2, hcap, he, htk⟩
  · subst h1
    have hi0 : i = 0 := by simp at hij; omega
    subst hi0
    refine ⟨a.eval x, fun w' => exec_slice ho ?_, .inl ⟨by simp, h2⟩⟩
    have hb := run_bounds (P := P) (b := true) (cap := 0) ok hl hh (by omega) (by simp) (by simp) w'
    have hu := run_underlying hT.u w'
    have hs := run_sizeOf hT.s w'
    rcases h2 with h2 | ⟨_, z, h2⟩
    all_goals
      rw [h2]
      unfold Instr.sliceAt Instr.slice
      simp only [Sem.run_bind, hu, Result.andThen_ok, Option.map_none]
      simp only [List.length_nil, Int.toNat_zero] at hb
      simp only [hb, hs, Result.andThen_ok, Sem.run_pure]
      rfl
  · have hb := fun w' => run_bounds (P := P) (b := true) (cap := cap) ok hl hh h0 hij (by omega) w'
    have key : ∀ w', (Instr.sliceAt t (a.eval x) (lo.map a.eval) (hi.map a.eval) (Option.map a.eval none)).run P w' = .ok (.slice (if cap = i.toNat then some ⟨b, off, none⟩ else some ⟨b, off + i.toNat * n, none⟩) (l.length - i.toNat) (cap - i.toNat)) w' := fun w' => by
      have hu := run_underlying hT.u w'
      have hs := run_sizeOf hT.s w'
      rw [h2]
      unfold Instr.sliceAt Instr.slice
      simp only [Sem.run_bind, hu, Result.andThen_ok, Option.map_none]
      have hb := hb w'
      simp only [hb, hs, Result.andThen_ok, Sem.run_pure, Option.map_some, addr_add, Int.toNat_natCast]
    have hnn : n' = n ∨ l = [] := by
      cases l with
      | nil => exact .inr rfl
      | cons c l => left; rw [← he.1]; exact hn c List.mem_cons_self
    have tok : ∀ q, n' = n → TokOK C tk n' b q (off + cap * n') → off + l.length * n' = q → TokOK C tk n b (off + i.toNat * n + (l.drop i.toNat).length * n) (off + i.toNat * n + (cap - i.toNat) * n) := by
      intro q e1 h e2
      subst e1; subst e2
      have e3 : off + i.toNat * n' + (l.drop i.toNat).length * n' = off + l.length * n' := by
        rw [List.length_drop, Nat.add_assoc, ← Nat.add_mul]
        congr 2
        omega
      have e4 : off + i.toNat * n' + (cap - i.toNat) * n' = off + cap * n' := by
        rw [Nat.add_assoc, ← Nat.add_mul]
        congr 2
        omega
      rw [e3, e4]
      exact h
    refine ⟨_, fun w' => exec_slice ho (key w'), .inr ?_⟩
    by_cases hc : cap = i.toNat
    · have hle : l.length ≤ i.toNat := by omega
      rw [if_pos hc, List.drop_eq_nil_of_le hle]
      refine ⟨b, off, cap - i.toNat, n, by simp; omega, by simp, trivial, ?_⟩
      have hz : cap - i.toNat = 0 := by omega
      cases tk with
      | fz => trivial
      | nl => exact htk
      | cap q k => exact ⟨htn q k rfl, htk.2.1, fun _ => .inl (by simp [hz])⟩
    · rw [if_neg hc]
      rcases hnn with hnn | hnn
      · refine ⟨b, off + i.toNat * n, cap - i.toNat, n, by rw [List.length_drop], by rw [List.length_drop]; omega, ?_, tok _ hnn htk rfl⟩
        subst hnn
        exact he.slice _
      · subst hnn
        have hi0 : i = 0 := by simp at hij; omega
        subst hi0
        refine ⟨b, off, cap, n', by simp, by simp, trivial, ?_⟩
        simpa using htk

/-- x[lo:hi] over a mutable object. -/
theorem t_slice_ref {t e n : Nat} {x : Operand} {lo hi : Option Operand} {ob off len : Nat} {i j : Int} {q m : Nat} (ho : o.op = .slice t x lo hi none) (hT : SliceTy P t e n) (hx : EvO env x (.ref ob off len)) (hl : EvB env lo 0 i) (hh : EvB env hi len j)
    (h0 : 0 ≤ i) (hij : i ≤ j) (hjl : j ≤ (len : Int)) (hq : off + i.toNat * n = q) (hm : j.toNat - i.toNat = m) : TOp P o env (.ref ob q m) := by
  intro C w N a ok
  subst hq; subst hm
  obtain ⟨hob, bb, cap, h2, hcap, hbb⟩ : Rep C w (.ref ob off len) (a.eval x) := hx.rep ok
  have key : ∀ w', (Instr.sliceAt t (a.eval x) (lo.map a.eval) (hi.map a.eval) (Option.map a.eval none)).run P w' = .ok (.slice (if cap = i.toNat then some bb else some (bb.add (i.toNat * n))) (j.toNat - i.toNat) (cap - i.toNat)) w' := fun w' => by
    have hb := run_bounds (P := P) (b := true) (cap := cap) ok hl hh h0 hij (by omega) w'
    have hu := run_underlying hT.u w'
    have hs := run_sizeOf hT.s w'
    rw [h2]
    unfold Instr.sliceAt Instr.slice
    simp only [Sem.run_bind, hu, Result.andThen_ok, Option.map_none]
    simp only [hb, hs, Result.andThen_ok, Sem.run_pure, Option.map_some]
  by_cases hc : cap = i.toNat
  · exact ⟨_, fun w' => exec_slice ho (key w'), hob, bb, _, by rw [if_pos hc], by omega, fun h => by omega⟩
  · refine ⟨_, fun w' => exec_slice ho (key w'), hob, bb.add (i.toNat * n), _, by rw [if_neg hc], by omega, fun h => ?_⟩
    rw [hbb (by omega), addr_add]

/-- An array behind an address, sliced whole. -/
theorem t_slice_parr {t len e n : Nat} {x : Operand} {ob off : Nat} (ho : o.op = .slice t x none none none) (hT : ArrTy P t len e n) (hx : EvO env x (.ptr ob off)) : TOp P o env (.ref ob off len) := by
  intro C w N a ok
  obtain ⟨hob, h1⟩ : Rep C w (.ptr ob off) (a.eval x) := hx.rep ok
  generalize a.eval = ρ at *
  have key : ∀ w', (Instr.sliceAt t (ρ x) (Option.map ρ none) (Option.map ρ none) (Option.map ρ none)).run P w' = .ok (.slice (some ⟨C.σ ob, off, none⟩) len len) w' := fun w' => by
    have hu := run_underlying hT.u w'
    have hs := run_sizeOf hT.s w'
    rw [h1]
    unfold Instr.sliceAt Instr.sliceBounds
    simp only [Sem.run_bind, hu, Result.andThen_ok, Option.map_none, Sem.run_pure, Instr.sureAddr, hs, Nat.zero_mul, addr_add]
    simp
  exact ⟨_, fun w' => exec_slice ho (key w'), hob, _, _, rfl, Nat.le_refl _, fun _ => rfl⟩

/-- A string's byte; its part. -/
theorem t_sindex {t : Nat} {x ix : Operand} {s : ByteArray} {k : IntKind} {i : Int} {r : Int} (ho : o.op = .index t x ix) (hu : P.underlying t = some .string) (hx : EvO env x (.str s)) (hi : EvO env ix (.int k i)) (h0 : 0 ≤ i) (hl : i < s.size) (hr : ((s.get! i.toNat).toNat : Int) = r) : TOp P o env (.int .u8 r) := by
  intro C w N a ok
  have h1 : a.eval x = .string s := hx.rep ok
  have h2 : a.eval ix = .int k i := hi.rep ok
  generalize a.eval = ρ at *
  subst hr
  have hlt : i.toNat < s.size := by omega
  have hg : s[i.toNat]? = some (s.get! i.toNat) := by
    rw [getElem?_pos s i.toNat hlt]
    congr 1
    simp only [ByteArray.get!, ByteArray.getElem_eq_getElem_data]
    rw [getElem!_pos]
  refine ⟨.int .u8 (s.get! i.toNat).toNat, fun w' => ?_, rfl⟩
  simp [execOp, ho, go_sem, h1, h2, Instr.index, asIntOf, underlying, hu, h0, hg]

/-- A string's part. -/
theorem t_sslice {t : Nat} {x : Operand} {lo hi : Option Operand} {s : ByteArray} {i j : Int} {m : ByteArray} (ho : o.op = .slice t x lo hi none) (hu : P.underlying t = some .string) (hx : EvO env x (.str s)) (hl : EvB env lo 0 i) (hh : EvB env hi s.size j)
    (h0 : 0 ≤ i) (hij : i ≤ j) (hjl : j ≤ (s.size : Int)) (hm : s.extract i.toNat j.toNat = m) : TOp P o env (.str m) := by
  intro C w N a ok
  subst hm
  have h2 : a.eval x = .string s := hx.rep ok
  refine ⟨.string (s.extract i.toNat j.toNat), fun w' => exec_slice ho ?_, rfl⟩
  have hb := run_bounds (P := P) (b := false) (cap := s.size) ok hl hh h0 hij hjl w'
  have hu' := run_underlying hu w'
  rw [h2]
  unfold Instr.sliceAt Instr.slice
  simp only [Sem.run_bind, hu', Result.andThen_ok, Option.map_none]
  simp only [Option.isSome_none, Bool.false_eq_true, if_false, Sem.run_bind, hb, Result.andThen_ok, Sem.run_pure]

end Go.AV
