/- Struct and array values; rows; slicing. -/
import Derived.Test.YtgclbdndnbgnoaaDoorVf
namespace Go.AV
set_option linter.all false
open Go.RowKit (Below)
variable {P : Program} {env : Env} {o : Oper} {H : HH}

theorem foldl_sets : ∀ (vs : List Value) (k off : Nat) (cells : List Value), off + k + vs.length ≤ cells.length →
    (vs.zipIdx k).foldl (fun (cs : Array Value) (p : Value × Nat) => cs.setIfInBounds (off + p.2) p.1) cells.toArray = (cells.take (off + k) ++ vs ++ cells.drop (off + k + vs.length)).toArray
  | [], k, off, cells, _ => by simp
  | v :: vs, k, off, cells, h => by
    simp only [List.zipIdx_cons, List.foldl_cons]
    simp only [List.length_cons] at h
    rw [List.setIfInBounds_toArray, foldl_sets vs (k + 1) off (cells.set (off + k) v) (by simp; omega)]
    congr 1
    have e := list_seg_step cells (off + k) v vs (by omega)
    simpa [Nat.add_assoc] using e

def afill (place : Nat → Option (Nat × Nat)) (cells : List VV) : List (Nat × VV) → Option (List VV)
  | [] => some cells
  | (i, v) :: rest =>
    match place i with
    | none => none
    | some (off, size) => if (cellsOf v).length = size ∧ off + size ≤ cells.length then afill place (splice cells off (cellsOf v)) rest else none

/-- Parts of a composite: operands with their values. -/
def EvP (env : Env) : List (Nat × Operand) → List (Nat × VV) → Prop
  | [], vs => vs = []
  | x :: xs, vs => ∃ v rest, vs = (x.1, v) :: rest ∧ EvO env x.2 v ∧ okCells v = true ∧ EvP env xs rest

theorem RepL.splice {C : Ctx} {w : World} {cs new : List VV} {rs ns : List Value} (h : RepL C w cs rs) (k : RepL C w new ns) (off : Nat) : RepL C w (splice cs off new) (rs.take off ++ ns ++ rs.drop (off + ns.length)) := by
  unfold AV.splice
  rw [k.get.1]
  exact ((h.take off).append k).append (h.drop _)

theorem fill_rep {C : Ctx} {w : World} {N : Nat} {a : Act} (k : EnvOK C w N env a) (place : Nat → Option (Nat × Nat)) : ∀ (xs : List (Nat × Operand)) (vs : List (Nat × VV)) (cs : List VV) (rs : List Value) (out : List VV),
    EvP env xs vs → RepL C w cs rs → afill place cs vs = some out → ∃ os : List Value, Instr.fill place rs.toArray (xs.map fun x => (x.1, a.eval x.2)) = some os.toArray ∧ RepL C w out os
  | [], vs, cs, rs, out, he, hr, hf => by
    unfold EvP at he
    subst he
    simp only [afill, Option.some.injEq] at hf
    subst hf
    exact ⟨rs, by simp [Instr.fill], hr⟩
  | (i, x) :: xs, vs, cs, rs, out, he, hr, hf => by
    obtain ⟨v, rest, e, h1, h2, h3⟩ := he
    subst e
    simp only [afill] at hf
    cases hp : place i with
    | none => simp [hp] at hf
    | some p =>
      obtain ⟨off, size⟩ := p
      simp only [hp] at hf
      split at hf
      · rename_i hc
        have hv := Rep.cells h2 (h1.rep k)
        have hlen := hv.get.1
        have hrl := hr.get.1
        have hsz : (a.eval x).cells.size = size := by rw [← hc.1, hlen]; simp
        obtain ⟨os, h4, h5⟩ := fill_rep k place xs rest _ _ out h3 (hr.splice hv off) hf
        refine ⟨os, ?_, h5⟩
        simp only [List.map_cons, Instr.fill, hp, hsz, ne_eq, not_true_eq_false, decide_false, Bool.false_or, decide_eq_true_eq, List.size_toArray]
        rw [if_neg (by simp; omega)]
        rw [← h4]
        congr 1
        have := foldl_sets (a.eval x).cells.toList 0 off rs (by rw [Array.length_toList, hsz]; omega)
        simp only [Nat.add_zero] at this
        rw [← this, ← Array.foldl_toList]
        simp
      · cases hf

/-- A struct type's places, and its zero cells. -/
structure StructTy (P : Program) (t : Nat) (pl : List (Nat × Nat)) (zs : List VV) : Prop where
  u : ∃ fs, P.underlying t = some (.struct fs) ∧ ∀ w, (fs.mapM (fun f => do pure (f.offset, ← sizeOf f.type)) : Sem (Array (Nat × Nat))).run P w = .ok pl.toArray w
  z : ∃ i z, P.info? t = some i ∧ i.zero = some z ∧ ∀ C w, RepL C w zs z.cells.toList

theorem t_build {t : Nat} {pl : List (Nat × Nat)} {zs out : List VV} {xs : List (Nat × Operand)} {vs : List (Nat × VV)} (ho : o.op = .build t xs.toArray) (hT : StructTy P t pl zs) (hx : EvP env xs vs)
    (hf : afill (pl[·]?) zs vs = some out) : TOp P o env (.agg out) := by
  intro C w N a ok
  obtain ⟨fs, h1, h2⟩ := hT.u
  obtain ⟨i, z, h3, h4, h5⟩ := hT.z
  obtain ⟨os, h6, h7⟩ := fill_rep ok _ xs vs zs z.cells.toList out hx (h5 C w) hf
  generalize a.eval = ρ at *
  refine ⟨.agg os.toArray, fun w' => ?_, os, rfl, h7⟩
  have e : execOp ρ o = (do pure (.value (← Instr.build t (xs.toArray.map fun (i, x) => (i, ρ x))))) := by simp only [execOp, ho]
  rw [e]
  unfold Instr.build
  have hz : (zeroValue t).run P w' = .ok z w' := by simp [zeroValue, typeInfo, go_sem, h3, h4]
  have hu := run_underlying h1 w'
  have h2' := h2 w'
  have h6' : Instr.fill (fun i => pl[i]?) z.cells (xs.map fun x => (x.1, ρ x.2)) = some os.toArray := by simpa using h6
  simp only [Sem.run_bind, hz, hu, h2', Result.andThen_ok, List.getElem?_toArray, List.map_toArray, h6', Sem.run_pure]

structure ArrValTy (P : Program) (t len n : Nat) (zs : List VV) : Prop where
  u : ∃ e, P.underlying t = some (.array len e) ∧ ∃ i, P.info? e = some i ∧ i.size = n
  z : ∃ i z, P.info? t = some i ∧ i.zero = some z ∧ ∀ C w, RepL C w zs z.cells.toList

theorem t_build_arr {t len n : Nat} {zs out : List VV} {xs : List (Nat × Operand)} {vs : List (Nat × VV)} (ho : o.op = .build t xs.toArray) (hT : ArrValTy P t len n zs) (hx : EvP env xs vs)
    (hf : afill (fun i => some (i * n, n)) zs vs = some out) : TOp P o env (.agg out) := by
  intro C w N a ok
  obtain ⟨e, h1, h2⟩ := hT.u
  obtain ⟨i, z, h3, h4, h5⟩ := hT.z
  obtain ⟨os, h6, h7⟩ := fill_rep ok _ xs vs zs z.cells.toList out hx (h5 C w) hf
  generalize a.eval = ρ at *
  refine ⟨.agg os.toArray, fun w' => ?_, os, rfl, h7⟩
  have e : execOp ρ o = (do pure (.value (← Instr.build t (xs.toArray.map fun (i, x) => (i, ρ x))))) := by simp only [execOp, ho]
  rw [e]
  unfold Instr.build
  have hz : (zeroValue t).run P w' = .ok z w' := by simp [zeroValue, typeInfo, go_sem, h3, h4]
  have hu := run_underlying h1 w'
  have hs := run_sizeOf h2 w'
  have h6' : Instr.fill (fun i => some (i * n, n)) z.cells (xs.map fun x => (x.1, ρ x.2)) = some os.toArray := by simpa using h6
  simp only [Sem.run_bind, hz, hu, hs, Result.andThen_ok, List.map_toArray, h6', Sem.run_pure]

/-! ### A new immutable row, with a growth token -/
def AS.row (S : AS) : AS := ⟨S.next + 1, S.obj, fun t => if t = S.next then true else S.live t⟩
def Ctx.row (C : Ctx) (b m lim : Nat) : Ctx := { C with n := C.n + 1, K := fun c j => C.K c j ∨ (c = b ∧ j < m), tip := fun t => if t = C.n then some (b, m, lim) else C.tip t, live := fun t => if t = C.n then true else C.live t }

theorem Ext.row {C : Ctx} {S : AS} {w w1 : World} (r : Rel C S w) (hw : w1 = w ∨ w1 = w.drew) (ob : Obj) (m lim : Nat) : Ext C w (C.row w.heap.size m lim) (w1.alloc ob) where
  B := rfl
  below := by rcases hw with rfl | rfl <;> exact ⟨rfl, rfl, rfl, by simp, fun k hk => Below.heap_alloc _ ob k (by have := r.B; first | omega | (simp only [World.size_drew]; omega))⟩
  n := Nat.le_succ _
  σ := fun _ _ => rfl
  K := fun _ _ h => .inl h
  cell := fun b j h => by
    rcases hw with rfl | rfl
    · exact World.cell?_alloc_lt (w := w1) (a := ⟨b, j, none⟩) _ (r.Kin b j h)
    · have := World.cell?_alloc_lt (w := w.drew) (a := ⟨b, j, none⟩) ob (r.Kin b j h)
      rw [this]; rfl
  tip := fun t ht hx => by simp only [Ctx.row] at hx ⊢; rw [if_neg (by omega)] at hx ⊢; exact ⟨hx, rfl⟩

def HH.pushT (H : HH) (t : Nat) : HH := ⟨H.objs, t :: H.toks⟩

theorem Sat.toklt {C : Ctx} {S : AS} {w : World} (r : Rel C S w) (s : Sat S H) : ∀ t ∈ H.toks, t < S.next := fun t ht => r.livelt t (s.toks t ht)

theorem Step.row {C : Ctx} {S : AS} {w w1 : World} (r : Rel C S w) (s : Sat S H) (hw : w1 = w ∨ w1 = w.drew) {rs : Array Value} {E : TypeId} {m lim : Nat} (hl : lim ≤ rs.size) :
    Step C S w H (C.row w.heap.size m lim) S.row (w1.alloc (.cells rs E)) (H.pushT S.next) := by
  have ext := Ext.row r hw (.cells rs E) m lim
  have hh : w1.heap = w.heap := by rcases hw with rfl | rfl <;> rfl
  have old : ∀ b, b < w.heap.size → (w1.alloc (.cells rs E)).heap[b]? = w.heap[b]? := fun b hb => by
    rw [Below.heap_alloc w1 _ b (by rw [hh]; exact hb), hh]
  have hsz : (w1.alloc (.cells rs E)).heap.size = w.heap.size + 1 := by simp [hh]
  have hnew : (w1.alloc (.cells rs E)).heap[w.heap.size]? = some (.cells rs E) := by have := alloc_new w1 (.cells rs E); rwa [hh] at this
  have hob : ∀ o, S.obj o ≠ none → C.σ o < w.heap.size := fun o ho => by
    cases hc : S.obj o with
    | none => exact absurd hc ho
    | some c => exact r.blk hc
  refine ⟨ext, ⟨by simp [AS.row, Ctx.row, r.n], by rw [hsz]; exact Nat.le_succ_of_le r.B, fun o c ho => ?_, r.inj, fun o ho j hK => ?_, fun b j hK => ?_, fun t b e lim' hv ht => ?_, fun t t' x y v1 v2 h1 h2 e => ?_, fun t ht => ?_, fix_ext ext r.fix⟩,
    ⟨s.objs, s.nodup, fun t ht => ?_, ?_⟩, fun _ _ _ => rfl, fun o ho _ => old _ (hob o ho), fun t ht _ => ?_, fun o ho => .inl ho, fun t ht => ?_⟩
  · obtain ⟨h1, h2, h3⟩ := r.objs o c ho
    exact ⟨Nat.lt_succ_of_lt h1, h2, h3.mono ext (old _ (r.blk ho))⟩
  · rcases hK with hK | ⟨e, _⟩
    · exact r.objK o ho j hK
    · have := hob o ho
      have e : C.σ o = w.heap.size := e
      omega
  · rw [hsz]
    rcases hK with hK | ⟨e, _⟩
    · exact Nat.lt_succ_of_lt (r.Kin b j hK)
    · omega
  · simp only [Ctx.row] at ht hv
    split at ht
    · rename_i e1
      simp only [Option.some.injEq, Prod.mk.injEq] at ht
      obtain ⟨rfl, rfl, rfl⟩ := ht
      refine ⟨by rw [e1]; exact Nat.lt_succ_self _, r.B, ⟨rs, E, hnew, hl⟩, fun j hj hK => ?_, fun o ho e => ?_⟩
      · rcases hK with hK | ⟨_, h⟩
        · have := r.Kin _ _ hK; omega
        · omega
      · have := hob o ho
        have e : C.σ o = w.heap.size := e
        omega
    · rename_i e1
      rw [if_neg e1] at hv
      obtain ⟨h1, h2, ⟨cs, E', h3, h4⟩, h5, h6⟩ := r.tips t b e lim' hv ht
      have hb : b < w.heap.size := (Array.getElem?_eq_some_iff.1 h3).1
      refine ⟨Nat.lt_succ_of_lt h1, h2, ⟨cs, E', by rw [old b hb]; exact h3, h4⟩, fun j hj hK => ?_, h6⟩
      rcases hK with hK | ⟨e, _⟩
      · exact h5 j hj hK
      · omega
  · have tb : ∀ t x, C.live t = true → C.tip t = some x → x.1 < w.heap.size := fun t x hv hx => by
      obtain ⟨_, _, ⟨cs, E', h3, _⟩, _⟩ := r.tips t x.1 x.2.1 x.2.2 hv hx
      exact (Array.getElem?_eq_some_iff.1 h3).1
    simp only [Ctx.row] at h1 h2 v1 v2
    by_cases e1 : t = C.n <;> by_cases e2 : t' = C.n
    · rw [e1, e2]
    · rw [if_pos e1] at h1
      rw [if_neg e2] at h2 v2
      cases h1
      have := tb t' y v2 h2
      simp only at e
      omega
    · rw [if_neg e1] at h1 v1
      rw [if_pos e2] at h2
      cases h2
      have := tb t x v1 h1
      simp only at e
      omega
    · rw [if_neg e1] at h1 v1
      rw [if_neg e2] at h2 v2
      exact r.tipInj t t' x y v1 v2 h1 h2 e
  · simp only [AS.row] at ht
    simp only [Ctx.row]
    rw [r.n] at ht
    by_cases e1 : t = C.n
    · rw [if_pos e1]; exact ⟨by omega, rfl⟩
    · rw [if_neg e1] at ht ⊢
      exact ⟨Nat.lt_succ_of_lt (r.live t ht).1, (r.live t ht).2⟩
  · simp only [AS.row]
    split
    · rfl
    · rcases List.mem_cons.1 ht with ht | ht
      · contradiction
      · exact s.toks t ht
  · simp only [HH.pushT]
    exact List.nodup_cons.2 ⟨fun h => by have := s.toklt r _ h; omega, s.tnodup⟩
  · simp only [AS.row]; rw [if_neg (by omega)]
  · rcases List.mem_cons.1 ht with ht | ht
    · right; rw [ht]; exact Nat.le_refl _
    · exact .inl ht

/-- Elements that lie in a row at hand. -/
theorem RepElems.of {C : Ctx} {w : World} {n b : Nat} : ∀ (l : List (List VV)) (off : Nat) (rs : List Value), (∀ cs ∈ l, cs.length = n) → RepL C w l.flatten rs →
    (∀ j r, rs[j]? = some r → w.cell? ⟨b, off + j, none⟩ = some r ∧ C.K b (off + j)) → RepElems C w n l b off
  | [], _, _, _, _, _ => trivial
  | cs :: l, off, rs, hn, hl, hc => by
    have hcs := hn cs (List.mem_cons_self)
    have h1 := hl.take cs.length
    have h2 := hl.drop cs.length
    simp only [List.flatten_cons, List.take_left, List.drop_left] at h1 h2
    refine ⟨hcs, RepCells.of h1 fun j r hj => ?_, RepElems.of l (off + n) _ (fun c hc => hn c (List.mem_cons_of_mem _ hc)) h2 fun j r hj => ?_⟩
    · rw [List.getElem?_take] at hj
      split at hj
      · exact hc j r hj
      · cases hj
    · rw [List.getElem?_drop] at hj
      have := hc _ r hj
      rw [hcs, ← Nat.add_assoc] at this
      exact this

end Go.AV
