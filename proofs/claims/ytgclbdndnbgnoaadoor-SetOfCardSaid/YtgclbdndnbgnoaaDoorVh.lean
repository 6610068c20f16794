/- Slices: literals, make, append, slicing. -/
import Derived.Test.YtgclbdndnbgnoaaDoorVg
namespace Go.AV
set_option linter.all false
open Go.RowKit (Below)
variable {P : Program} {env : Env} {o : Oper} {H : HH}

/-- An element type: size, bytes, zero cells. -/
structure ElemTy (P : Program) (t e n bytes : Nat) : Prop where
  u : P.underlying t = some (.slice e)
  i : ∃ i z, P.info? e = some i ∧ i.size = n ∧ i.bytes = bytes ∧ i.zero = some z ∧ z.cells.size = n
  pos : 0 < n

theorem ElemTy.sl {t e n bytes : Nat} (h : ElemTy P t e n bytes) : SliceTy P t e n := ⟨h.u, let ⟨i, _, h1, h2, _⟩ := h.i; ⟨i, h1, h2⟩⟩

/-- Dense parts of a literal. -/
def EvE (env : Env) (n : Nat) : Nat → List (Nat × Operand) → List (List VV) → Prop
  | _, [], l => l = []
  | k, x :: xs, l => x.1 = k ∧ ∃ v rest, l = cellsOf v :: rest ∧ EvO env x.2 v ∧ okCells v = true ∧ (cellsOf v).length = n ∧ EvE env n (k + 1) xs rest

theorem fill_dense {C : Ctx} {w : World} {N n : Nat} {a : Act} (k : EnvOK C w N env a) : ∀ (xs : List (Nat × Operand)) (j : Nat) (l : List (List VV)) (done : List Value) (rest : List Value),
    EvE env n j xs l → done.length = j * n → rest.length = xs.length * n →
    ∃ os : List Value, Instr.fill (fun i => some (i * n, n)) (done ++ rest).toArray (xs.map fun x => (x.1, a.eval x.2)) = some (done ++ os).toArray ∧ RepL C w l.flatten os ∧ (∀ c ∈ l, c.length = n) ∧ l.length = xs.length
  | [], j, l, done, rest, he, _, hr => by
    unfold EvE at he
    subst he
    have : rest = [] := List.eq_nil_of_length_eq_zero (by simpa using hr)
    subst this
    exact ⟨[], by simp [Instr.fill], rfl, by simp, rfl⟩
  | (i, x) :: xs, j, l, done, rest, he, hd, hr => by
    obtain ⟨e1, v, lr, e, h1, h2, h3, h4⟩ := he
    subst e
    simp only at e1
    subst e1
    have hv := Rep.cells h2 (h1.rep k)
    have hlen := hv.get.1
    have hsz : (a.eval x).cells.size = n := by rw [← h3, hlen]; simp
    have hsz' : (a.eval x).cells.toList.length = n := by simpa using hsz
    simp only [List.length_cons, Nat.succ_mul] at hr
    obtain ⟨os, g1, g2, g3, g4⟩ := fill_dense k xs (i + 1) lr (done ++ (a.eval x).cells.toList) (rest.drop n) h4 (by rw [List.length_append, hd, hsz', Nat.succ_mul]) (by rw [List.length_drop]; omega)
    refine ⟨(a.eval x).cells.toList ++ os, ?_, ?_, ?_, by simp [g4]⟩
    · simp only [List.map_cons, Instr.fill, hsz, ne_eq, not_true_eq_false, decide_false, Bool.false_or, decide_eq_true_eq, List.size_toArray]
      rw [if_neg (by simp; omega)]
      have := foldl_sets (a.eval x).cells.toList 0 (i * n) (done ++ rest) (by rw [hsz', List.length_append]; omega)
      simp only [Nat.add_zero] at this
      rw [← hd, List.take_left, hsz', List.drop_append, hd] at this
      simp only [Nat.add_sub_cancel_left] at this
      rw [List.drop_eq_nil_of_le (by omega), List.nil_append] at this
      rw [← List.append_assoc, ← g1, ← this, ← Array.foldl_toList]
      simp [hd]
    · simp only [List.flatten_cons]
      exact hv.append g2
    · intro c hc
      rcases List.mem_cons.1 hc with hc | hc
      · subst hc; exact h3
      · exact g3 c hc

theorem cell_new {w w1 : World} (hh : w1.heap = w.heap) {rs : Array Value} {E : TypeId} (j : Nat) : (w1.alloc (.cells rs E)).cell? ⟨w.heap.size, j, none⟩ = rs[j]? := by
  have := alloc_new w1 (.cells rs E)
  rw [hh] at this
  simp [World.cell?, this]

/-- A slice over a new row whose first cells are claimed. -/
theorem rep_row {C : Ctx} {S : AS} {w w1 : World} (r : Rel C S w) (hw : w1 = w ∨ w1 = w.drew) {l : List (List VV)} {os : List Value} {rs : Array Value} {E : TypeId} {n cap lim : Nat} (hl : RepL C w l.flatten os) (hn : ∀ c ∈ l, c.length = n)
    (ho : ∀ (j : Nat) (v : Value), os[j]? = some v → rs[j]? = some v) (hcap : l.length ≤ cap) (hlim : lim = cap * n) :
    Rep (C.row w.heap.size (l.length * n) lim) (w1.alloc (.cells rs E)) (.sl (.cap S.next n) l) (.slice (some ⟨w.heap.size, 0, none⟩) l.length cap) := by
  have ext := Ext.row r hw (.cells rs E) (l.length * n) lim
  have hh : w1.heap = w.heap := by rcases hw with rfl | rfl <;> rfl
  have hos : os.length = l.length * n := by
    rw [← hl.get.1]
    clear hl ho hcap ext
    induction l with
    | nil => simp
    | cons c l ih =>
      rw [List.flatten_cons, List.length_append, ih fun c hc => hn c (List.mem_cons_of_mem _ hc), hn c List.mem_cons_self, List.length_cons, Nat.succ_mul]
      omega
  unfold Rep
  refine .inr ⟨w.heap.size, 0, cap, n, rfl, hcap, RepElems.of l 0 os hn (RepL.mono ext _ _ hl) fun j v hj => ?_, ?_⟩
  · rw [Nat.zero_add, cell_new hh]
    refine ⟨ho j v hj, .inr ⟨rfl, ?_⟩⟩
    have := (List.getElem?_eq_some_iff.1 hj).1
    omega
  · subst hlim
    refine ⟨rfl, by rw [r.n]; exact Nat.lt_succ_self _, fun _ => .inr ?_⟩
    simp [Ctx.row, r.n]

theorem w_buildSlice {t e n bytes len : Nat} {xs : List (Nat × Operand)} {l : List (List VV)} {K : VV → HH → Prop} (ho : o.op = .buildSlice t len xs.toArray) (hT : ElemTy P t e n bytes) (hx : EvE env n 0 xs l) (hl : xs.length = len) (hs : len * n ≤ 16777216)
    (hK : ∀ tk, K (.sl (.cap tk n) l) (H.pushT tk)) : WOp P o env H K := by
  intro C S w N a r s ok nx Q hn
  obtain ⟨i, z, h1, h2, h3, h4, h5⟩ := hT.i
  obtain ⟨os, g1, g2, g3, g4⟩ := fill_dense ok xs 0 l [] ((List.range (len * n)).map fun j => z.cells[j % z.cells.size]!) hx (by simp) (by simp [hl])
  simp only [List.nil_append] at g1
  generalize hρ : a.eval = ρ at *
  unfold Oper.wp
  have e1 : (execOp a.eval o).run P w = .ok (.value (.slice (some ⟨w.heap.size, 0, none⟩) len len)) (w.alloc (.cells os.toArray e)) := by
    rw [hρ]
    have e2 : execOp ρ o = (do pure (.value (← Instr.buildSlice t len (xs.toArray.map fun (i, x) => (i, ρ x))))) := by simp only [execOp, ho]
    rw [e2]
    unfold Instr.buildSlice
    have hu := run_underlying hT.u w
    have hsz := run_sizeOf ⟨i, h1, h2⟩ w
    have hz : (zeroValue e).run P w = .ok z w := by simp [zeroValue, typeInfo, go_sem, h1, h4]
    have hbig : ¬ (len * n > 2 ^ 24) := by omega
    simp only [Sem.run_bind, hu, hsz, Result.andThen_ok, hbig, if_false]
    by_cases h0 : len * n = 0
    · have hlen : len = 0 := by
        rcases Nat.mul_eq_zero.1 h0 with h | h
        · exact h
        · have := hT.pos; omega
      subst hlen
      have hxs : xs = [] := List.eq_nil_of_length_eq_zero hl
      subst hxs
      have hl0 : l = [] := hx
      subst hl0
      have hos : os = [] := by have := g2; simpa [RepL] using this
      subst hos
      simp [Instr.fill, newRow, go_sem]
    · have g1' : Instr.fill (fun i => some (i * n, n)) ((Array.range (len * n)).map fun x => z.cells[x % z.cells.size]!) (xs.toArray.map fun (i, x) => (i, ρ x)).toList = some os.toArray := by
        rw [← g1]
        congr 1
        · apply Array.ext'
          simp
        · simp
      simp only [h0, if_false, Sem.run_bind, hz, Result.andThen_ok, Sem.run_pure, g1', newRow, newObj]
      rfl
  rw [e1, Oper.upon_value]
  have hlen : l.length = len := by rw [g4, hl]
  have hol : os.length = len * n := by
    rw [← g2.get.1, ← hlen]
    clear g1 g2 hx hlen g4 hK
    induction l with
    | nil => simp
    | cons c l ih =>
      rw [List.flatten_cons, List.length_append, ih fun c hc => g3 c (List.mem_cons_of_mem _ hc), g3 c List.mem_cons_self, List.length_cons, Nat.succ_mul]
      omega
  have hst : Step C S w H (C.row w.heap.size (l.length * n) (len * n)) S.row (w.alloc (.cells os.toArray e)) (H.pushT S.next) := Step.row r s (.inl rfl) (by simp [hol])
  have hrep := rep_row r (.inl rfl) (rs := os.toArray) (E := e) g2 g3 (fun j v hj => by simpa using hj) (cap := len) (by omega) (lim := len * n) rfl
  rw [hlen] at hrep hst
  exact hn _ _ _ _ _ _ hst hrep (hK S.next)

/-! ### append -/
theorem sl_cells {C : Ctx} {w : World} {n : Nat} : ∀ {l : List (List VV)} {b off : Nat}, RepElems C w n l b off →
    ∃ rs : List Value, rs.length = l.length * n ∧ (∀ (j : Nat) (r : Value), rs[j]? = some r → w.cell? ⟨b, off + j, none⟩ = some r ∧ C.K b (off + j)) ∧ RepL C w l.flatten rs
  | [], _, _, _ => ⟨[], by simp, fun j r h => by simp at h, rfl⟩
  | c :: l, b, off, h => by
    obtain ⟨h1, h2, h3⟩ := h
    obtain ⟨rs, g1, g2⟩ := h2.cells
    obtain ⟨ss, k1, k2, k3⟩ := sl_cells h3
    have hl := g2.get.1
    refine ⟨rs ++ ss, by rw [List.length_append, k1, ← hl, h1, List.length_cons, Nat.succ_mul]; omega, fun j r hj => ?_, by rw [List.flatten_cons]; exact g2.append k3⟩
    rw [List.getElem?_append] at hj
    split at hj
    · exact g1 j r hj
    · rename_i hge
      have := k2 _ r hj
      rw [show off + n + (j - rs.length) = off + j by omega] at this
      exact this

/-- A fresh token that has no spare room. -/
def Ctx.fresh (C : Ctx) : Ctx := { C with n := C.n + 1, tip := fun t => if t = C.n then none else C.tip t, live := fun t => if t = C.n then true else C.live t }

theorem Ext.fresh {C : Ctx} {w : World} : Ext C w C.fresh w where
  B := rfl
  below := Below.refl _ _
  n := Nat.le_succ _
  σ := fun _ _ => rfl
  K := fun _ _ h => h
  cell := fun _ _ _ => rfl
  tip := fun t ht hx => by simp only [Ctx.fresh] at hx ⊢; rw [if_neg (by omega)] at hx ⊢; exact ⟨hx, rfl⟩

theorem ObjRep.ext {C C' : Ctx} {w : World} (h : Ext C w C' w) {b : Nat} {c : AObj} (k : ObjRep C w b c) : ObjRep C' w b c := k.mono h rfl

theorem Step.fresh {C : Ctx} {S : AS} {w : World} (r : Rel C S w) (s : Sat S H) : Step C S w H C.fresh S.row w (H.pushT S.next) := by
  refine ⟨Ext.fresh, ⟨by simp [AS.row, Ctx.fresh, r.n], r.B, fun o c ho => ?_, r.inj, r.objK, r.Kin, fun t b e lim hv ht => ?_, fun t t' x y v1 v2 h1 h2 e => ?_, fun t ht => ?_, fix_ext Ext.fresh r.fix⟩,
    ⟨s.objs, s.nodup, fun t ht => ?_, ?_⟩, fun _ _ _ => rfl, fun _ _ _ => rfl, fun t ht _ => ?_, fun o ho => .inl ho, fun t ht => ?_⟩
  · obtain ⟨h1, h2, h3⟩ := r.objs o c ho
    exact ⟨Nat.lt_succ_of_lt h1, h2, h3.ext Ext.fresh⟩
  · simp only [Ctx.fresh] at hv ht
    by_cases e1 : t = C.n
    · rw [if_pos e1] at ht; cases ht
    · rw [if_neg e1] at hv ht
      obtain ⟨h1, h2, h3, h4, h5⟩ := r.tips t b e lim hv ht
      exact ⟨Nat.lt_succ_of_lt h1, h2, h3, h4, h5⟩
  · simp only [Ctx.fresh] at v1 v2 h1 h2
    by_cases e1 : t = C.n
    · rw [if_pos e1] at h1; cases h1
    · by_cases e2 : t' = C.n
      · rw [if_pos e2] at h2; cases h2
      · rw [if_neg e1] at v1 h1
        rw [if_neg e2] at v2 h2
        exact r.tipInj t t' x y v1 v2 h1 h2 e
  · simp only [AS.row] at ht
    simp only [Ctx.fresh]
    rw [r.n] at ht
    by_cases e1 : t = C.n
    · rw [if_pos e1]; exact ⟨by omega, rfl⟩
    · rw [if_neg e1] at ht ⊢
      exact ⟨Nat.lt_succ_of_lt (r.live t ht).1, (r.live t ht).2⟩
  · simp only [AS.row]
    split
    · rfl
    · rcases List.mem_cons.1 ht with ht | ht
      · contradiction
      · exact s.toks t ht
  · simp only [HH.pushT]
    exact List.nodup_cons.2 ⟨fun h => by have := s.toklt r _ h; omega, s.tnodup⟩
  · simp only [AS.row]; rw [if_neg (by omega)]
  · rcases List.mem_cons.1 ht with ht | ht
    · right; rw [ht]; exact Nat.le_refl _
    · exact .inl ht

/-- The area of a live token goes to a fresh one, some of its cells are claimed. -/
def Ctx.grow (C : Ctx) (t b e m lim : Nat) : Ctx :=
  { C with n := C.n + 1, K := fun c j => C.K c j ∨ (c = b ∧ e ≤ j ∧ j < e + m), tip := fun u => if u = C.n then some (b, e + m, lim) else C.tip u, live := fun u => if u = C.n then true else if u = t then false else C.live u }
def AS.grow (S : AS) (t : Nat) : AS := ⟨S.next + 1, S.obj, fun u => if u = S.next then true else if u = t then false else S.live u⟩
def HH.swapT (H : HH) (i t : Nat) : HH := ⟨H.objs, t :: H.toks.eraseIdx i⟩

theorem Step.grow {C : Ctx} {S : AS} {w w' : World} (r : Rel C S w) (s : Sat S H) {i t b e m lim : Nat} (hi : H.toks[i]? = some t) (ht : C.tip t = some (b, e, lim)) (hm : e + m ≤ lim) (hw : OnlyBlk w w' b)
    (hsz : ∀ cs E, w.heap[b]? = some (.cells cs E (0, 0)) → ∃ cs', w'.heap[b]? = some (.cells cs' E (0, 0)) ∧ cs'.size = cs.size ∧ ∀ j, j < e → cs'[j]? = cs[j]?) :
    Step C S w H (C.grow t b e m lim) (S.grow t) w' (H.swapT i S.next) := by
  have htm : t ∈ H.toks := List.mem_of_getElem? hi
  have hlv := (r.live t (s.toks t htm))
  obtain ⟨h1, h2, ⟨cs, E, h3, h4⟩, h5, h6⟩ := r.tips t b e lim hlv.2 ht
  obtain ⟨cs', g1, g2, g3⟩ := hsz cs E h3
  have ext : Ext C w (C.grow t b e m lim) w' := ⟨rfl, ⟨hw.os, hw.tape, hw.output, Nat.le_of_eq hw.size.symm, fun k hk => hw.blk k (by omega)⟩, Nat.le_succ _, fun _ _ => rfl, fun _ _ h => .inl h, fun c j hK => by
      by_cases e1 : c = b
      · subst e1
        have hj : j < e := by
          rcases Nat.lt_or_ge j e with h | h
          · exact h
          · exact absurd hK (h5 j h)
        simp only [World.cell?, h3, g1]
        simp [g3 j hj]
      · exact World.cell?_of_block (w := w) (a := ⟨c, j, none⟩) (hw.blk c e1), fun u hu hx => by
      simp only [Ctx.grow] at hx ⊢
      rw [if_neg (by omega)] at hx ⊢
      by_cases e1 : u = t
      · rw [if_pos e1] at hx; cases hx
      · rw [if_neg e1] at hx; exact ⟨hx, rfl⟩⟩
  have tlt : t < C.n := h1
  refine ⟨ext, ⟨by simp [AS.grow, Ctx.grow, r.n], by rw [hw.size]; exact r.B, fun o c ho => ?_, r.inj, fun o ho j hK => ?_, fun c j hK => ?_, fun u b' e' lim' hv hu => ?_, fun u u' x y v1 v2 k1 k2 ee => ?_, fun u hu => ?_, fix_ext ext r.fix⟩,
    ⟨s.objs, s.nodup, fun u hu => ?_, ?_⟩, fun _ _ _ => rfl, fun o ho _ => hw.blk _ (h6 o ho), fun u hu hH => ?_, fun o ho => .inl ho, fun u hu => ?_⟩
  · have ho : S.obj o = some c := ho
    obtain ⟨k1, k2, k3⟩ := r.objs o c ho
    exact ⟨Nat.lt_succ_of_lt k1, k2, k3.mono ext (hw.blk _ (h6 o (by rw [ho]; simp)))⟩
  · rcases hK with hK | ⟨e1, _⟩
    · exact r.objK o ho j hK
    · exact h6 o ho e1
  · rw [hw.size]
    rcases hK with hK | ⟨e1, _⟩
    · exact r.Kin c j hK
    · subst e1; exact (Array.getElem?_eq_some_iff.1 h3).1
  · simp only [Ctx.grow] at hv hu
    by_cases e1 : u = C.n
    · rw [if_pos e1] at hu
      simp only [Option.some.injEq, Prod.mk.injEq] at hu
      obtain ⟨rfl, rfl, rfl⟩ := hu
      refine ⟨by rw [e1]; exact Nat.lt_succ_self _, h2, ⟨cs', E, g1, by omega⟩, fun j hj hK => ?_, h6⟩
      rcases hK with hK | ⟨_, k2, k3⟩
      · exact h5 j (by omega) hK
      · omega
    · rw [if_neg e1] at hu hv
      by_cases e2 : u = t
      · rw [if_pos e2] at hv; cases hv
      · rw [if_neg e2] at hv
        obtain ⟨k1, k2, ⟨ds, E', k3, k4⟩, k5, k6⟩ := r.tips u b' e' lim' hv hu
        have hne : b' ≠ b := fun e3 => e2 (r.tipInj u t _ _ hv hlv.2 hu ht e3)
        refine ⟨Nat.lt_succ_of_lt k1, k2, ⟨ds, E', by rw [hw.blk b' hne]; exact k3, k4⟩, fun j hj hK => ?_, k6⟩
        rcases hK with hK | ⟨e3, _⟩
        · exact k5 j hj hK
        · exact hne e3
  · simp only [Ctx.grow] at v1 v2 k1 k2
    by_cases e1 : u = C.n <;> by_cases e2 : u' = C.n
    · rw [e1, e2]
    · rw [if_pos e1] at k1
      rw [if_neg e2] at k2 v2
      cases k1
      by_cases e3 : u' = t
      · rw [if_pos e3] at v2; cases v2
      · rw [if_neg e3] at v2
        exact absurd (r.tipInj u' t _ _ v2 hlv.2 k2 ht ee.symm) e3
    · rw [if_neg e1] at k1 v1
      rw [if_pos e2] at k2
      cases k2
      by_cases e3 : u = t
      · rw [if_pos e3] at v1; cases v1
      · rw [if_neg e3] at v1
        exact absurd (r.tipInj u t _ _ v1 hlv.2 k1 ht ee) e3
    · rw [if_neg e1] at k1 v1
      rw [if_neg e2] at k2 v2
      by_cases e3 : u = t
      · rw [if_pos e3] at v1; cases v1
      · by_cases e4 : u' = t
        · rw [if_pos e4] at v2; cases v2
        · rw [if_neg e3] at v1
          rw [if_neg e4] at v2
          exact r.tipInj u u' x y v1 v2 k1 k2 ee
  · simp only [AS.grow] at hu
    simp only [Ctx.grow]
    rw [r.n] at hu
    by_cases e1 : u = C.n
    · rw [if_pos e1]; exact ⟨by omega, rfl⟩
    · rw [if_neg e1] at hu ⊢
      by_cases e2 : u = t
      · rw [if_pos e2] at hu; cases hu
      · rw [if_neg e2] at hu ⊢
        exact ⟨Nat.lt_succ_of_lt (r.live u hu).1, (r.live u hu).2⟩
  · have hne : ∀ u ∈ H.toks.eraseIdx i, u ≠ t := fun u hu e1 => by
      obtain ⟨j, hj⟩ := List.mem_iff_getElem?.1 hu
      have nd := s.tnodup
      rw [List.getElem?_eraseIdx] at hj
      have hli := List.getElem?_eq_some_iff.1 hi
      split at hj
      · have hlj := List.getElem?_eq_some_iff.1 hj
        exact List.pairwise_iff_getElem.1 nd j i hlj.1 hli.1 (by assumption) (hlj.2.trans (e1.trans hli.2.symm))
      · have hlj := List.getElem?_eq_some_iff.1 hj
        exact List.pairwise_iff_getElem.1 nd i (j + 1) hli.1 hlj.1 (by omega) (hli.2.trans (hlj.2.trans e1).symm)
    simp only [AS.grow]
    split
    · rfl
    · rcases List.mem_cons.1 hu with hu | hu
      · contradiction
      · rw [if_neg (hne u hu)]
        exact s.toks u (List.mem_of_mem_eraseIdx hu)
  · simp only [HH.swapT]
    exact List.nodup_cons.2 ⟨fun h => by have := s.toklt r _ (List.mem_of_mem_eraseIdx h); omega, List.Nodup.sublist (List.eraseIdx_sublist _ _) s.tnodup⟩
  · simp only [AS.grow]; rw [if_neg (by omega), if_neg (fun e1 : u = t => hH (e1 ▸ htm))]
  · rcases List.mem_cons.1 hu with hu | hu
    · right; rw [hu]; exact Nat.le_refl _
    · exact .inl (List.mem_of_mem_eraseIdx hu)

/-- A footprint may be forgotten in part. -/
structure HH.Sub (A B : HH) : Prop where
  o : A.objs.Sublist B.objs
  t : A.toks.Sublist B.toks

theorem Sat.sub {S : AS} {A B : HH} (h : A.Sub B) (s : Sat S B) : Sat S A :=
  ⟨fun p hp => s.objs p (h.o.subset hp), List.Nodup.sublist (h.o.map _) s.nodup, fun t ht => s.toks t (h.t.subset ht), List.Nodup.sublist h.t s.tnodup⟩

theorem Step.sub {C S w H C' S' w' H'} {A : HH} (h : A.Sub H') (k : Step C S w H C' S' w' H') : Step C S w H C' S' w' A :=
  ⟨k.ext, k.rel, k.sat.sub h, k.obj, k.blk, k.live, fun o ho => k.newo o ((h.o.map _).subset ho), fun t ht => k.newt t (h.t.subset ht)⟩

theorem HH.swap_sub (H : HH) (i t : Nat) : (H.swapT i t).Sub (H.pushT t) := ⟨List.Sublist.refl _, List.Sublist.cons_cons _ (List.eraseIdx_sublist _ _)⟩

/-- Elements as cells: all of one size, none an aggregate. -/
def elemsOK (n : Nat) (l : List (List VV)) : Prop := ∀ c ∈ l, c.length = n ∧ c.all isScalar = true

theorem elems_flat {n : Nat} {l : List (List VV)} (h : elemsOK n l) : l.flatten.length = l.length * n ∧ l.flatten.all isScalar = true := by
  induction l with
  | nil => simp
  | cons c l ih =>
    have := ih fun c hc => h c (List.mem_cons_of_mem _ hc)
    have h1 := h c List.mem_cons_self
    rw [List.flatten_cons, List.length_append, this.1, h1.1, List.length_cons, Nat.succ_mul, List.all_append, h1.2, this.2]
    exact ⟨by omega, rfl⟩

/-- What a slice value's cells are: none, or in memory. -/
theorem src_cells {C : Ctx} {w : World} {tk : Tok} {m : List (List VV)} {rv : Value} {n : Nat} (h : Rep C w (.sl tk m) rv) (hn : elemsOK n m) : (m = [] ∧ ∃ b c, rv = .slice b 0 c) ∨
    ∃ b off cap, ∃ rs : List Value, rv = .slice (some ⟨b, off, none⟩) m.length cap ∧ rs.length = m.length * n ∧ (∀ (j : Nat) (r : Value), rs[j]? = some r → w.cell? ((⟨b, off, none⟩ : Addr).add j) = some r) ∧ RepL C w m.flatten rs ∧ ∀ r ∈ rs, r.oneCell' = true := by
  rcases h with ⟨h1, h2⟩ | ⟨b, off, cap, n', h2, _, h3, _⟩
  · obtain ⟨b, hb⟩ := h2.len
    exact .inl ⟨h1, _, _, hb⟩
  · cases m with
    | nil => exact .inl ⟨rfl, _, _, h2⟩
    | cons c m =>
      obtain ⟨rs, k1, k2, k3⟩ := sl_cells h3
      have hn' : n' = n := by have := h3.1; rw [(hn c List.mem_cons_self).1] at this; exact this.symm
      subst hn'
      exact .inr ⟨b, off, cap, rs, h2, k1, fun j r hj => by rw [addr_add]; exact (k2 j r hj).1, k3, RepL.one (elems_flat hn).2 k3⟩

theorem getElem?_mid {α : Type} (l m r : List α) (j : Nat) (h : j < m.length) : (l ++ m ++ r)[l.length + j]? = m[j]? := by
  rw [List.append_assoc, List.getElem?_append_right (by omega), Nat.add_sub_cancel_left, List.getElem?_append_left h]

/-- The append itself, from a slice that is nil. -/
theorem append_nil {C : Ctx} {S : AS} {w : World} (r : Rel C S w) (s : Sat S H) {t e n bytes ty : Nat} (hT : ElemTy P t e n bytes) {tk2 : Tok} {m : List (List VV)} {y : Value} (hy : Rep C w (.sl tk2 m) y) (hm : elemsOK n m) (hb : m.length * bytes ≤ 140737488355328) (h63 : m.length ≤ 9223372036854775807) :
    ∃ rv w' C' S' t', (Builtin.append_ #[t, t] ty #[.slice none 0 0, y]).run P w = .ok rv w' ∧ Step C S w H C' S' w' (H.pushT t') ∧ Rep C' w' (.sl (.cap t' n) m) rv := by
  obtain ⟨i, z, i1, i2, i3, i4, i5⟩ := hT.i
  rcases src_cells hy hm with ⟨hm0, b, c, hy0⟩ | ⟨b, off, cap, rs, hy0, hlen, hcell, hrep, hone⟩
  · subst hm0; subst hy0
    refine ⟨.slice none 0 0, w, C.fresh, S.row, S.next, ?_, Step.fresh r s, .inl ⟨rfl, .inl rfl⟩⟩
    cases b <;> simp [Builtin.append_, run_underlying hT.u, sizeOf, typeInfo, i1, Builtin.lenOf, Builtin.firstCells, loadCells, loadCellsFrom]
  · subst hy0
    rcases Nat.eq_zero_or_pos m.length with h0 | h0
    · have hm0 : m = [] := List.eq_nil_of_length_eq_zero h0
      subst hm0
      refine ⟨.slice none 0 0, w, C.fresh, S.row, S.next, ?_, Step.fresh r s, .inl ⟨rfl, .inl rfl⟩⟩
      simp [Builtin.append_, run_underlying hT.u, sizeOf, typeInfo, i1, Builtin.lenOf, Builtin.firstCells, loadCells, loadCellsFrom]
    · have hr := run_append_nil (P := P) w t ty e i z hT.u i1 i4 ⟨b, off, none⟩ m.length cap rs (by rw [i2]; exact hlen) hcell h0 (by omega) (by rw [i3]; omega)
      have hge := grownCap_ge w m.length 0 e
      have hst : Step C S w H (C.row w.heap.size (m.length * n) (grownCap w m.length 0 e * n)) S.row _ (H.pushT S.next) := Step.row r s (.inr rfl) (rs := rs.toArray ++ Builtin.zeroCells z.cells (grownCap w m.length 0 e - m.length)) (E := e) (by
        simp only [Array.size_append, List.size_toArray, size_zeroCells, i5, hlen, ← Nat.add_mul]
        exact Nat.mul_le_mul_right _ (by omega))
      have hrp := rep_row r (.inr rfl) (rs := rs.toArray ++ Builtin.zeroCells z.cells (grownCap w m.length 0 e - m.length)) (E := e) hrep (fun c hc => (hm c hc).1) (fun j v hj => by
        rw [Array.getElem?_append_left (by simpa using (List.getElem?_eq_some_iff.1 hj).1)]
        simpa using hj) (cap := grownCap w m.length 0 e) hge (lim := grownCap w m.length 0 e * n) rfl
      exact ⟨_, _, _, _, _, hr, hst, hrp⟩

/-- The append itself, to a slice that may grow. -/
theorem append_cap {C : Ctx} {S : AS} {w : World} (r : Rel C S w) (s : Sat S H) {t e n bytes ty : Nat} (hT : ElemTy P t e n bytes) {tk2 : Tok} {l m : List (List VV)} {x y : Value} {i tok : Nat} (hi : H.toks[i]? = some tok)
    (hx : Rep C w (.sl (.cap tok n) l) x) (hy : Rep C w (.sl tk2 m) y) (hm : elemsOK n m) (hb : (l.length + m.length) * bytes ≤ 140737488355328) (h63 : l.length + m.length ≤ 9223372036854775807) :
    ∃ rv w' C' S' t', (Builtin.append_ #[t, t] ty #[x, y]).run P w = .ok rv w' ∧ Step C S w H C' S' w' (H.swapT i t') ∧ Rep C' w' (.sl (.cap t' n) (l ++ m)) rv := by
  obtain ⟨ti, z, i1, i2, i3, i4, i5⟩ := hT.i
  have hpos := hT.pos
  rcases hx with ⟨hl0, hx0⟩ | ⟨b, off, cap, n', hx0, hcap, hel, hk, htn, htk⟩
  · obtain hx0 : x = .slice none 0 0 := hx0.resolve_right fun hh => by cases hh.1
    subst hl0; subst hx0
    obtain ⟨rv, w', C', S', t', h1, h2, h3⟩ := append_nil r s (ty := ty) hT hy hm (by simpa using hb) (by simpa using h63)
    exact ⟨rv, w', C', S', t', h1, h2.sub (H.swap_sub i t'), by simpa using h3⟩
  · subst hk; subst hx0
    have hlv := r.live tok (s.toks tok (List.mem_of_getElem? hi))
    have htk := htk hlv.2
    have cells : ∀ {mm : List (List VV)}, mm = [] → ∀ (y : Value), (∃ b c, y = .slice b 0 c) → ∃ rv w' C' S' t', (Builtin.append_ #[t, t] ty #[.slice (some ⟨b, off, none⟩) l.length cap, y]).run P w = .ok rv w' ∧ Step C S w H C' S' w' (H.swapT i t') ∧ Rep C' w' (.sl (.cap t' n) (l ++ mm)) rv := by
      intro mm hm0 y ⟨b2, c2, hy0⟩
      subst hm0; subst hy0
      have hrun : (Builtin.append_ #[t, t] ty #[.slice (some ⟨b, off, none⟩) l.length cap, .slice b2 0 c2]).run P w = .ok (.slice (some ⟨b, off, none⟩) l.length cap) w := by
        cases b2 <;> simp [Builtin.append_, run_underlying hT.u, sizeOf, typeInfo, i1, Builtin.lenOf, Builtin.firstCells, loadCells, loadCellsFrom, hcap, storeCells]
      rw [List.append_nil]
      rcases htk with hle | htip
      · exact ⟨_, _, _, _, _, hrun, (Step.fresh r s).sub (H.swap_sub i S.next), .inr ⟨b, off, cap, n, rfl, hcap, RepElems.mono Ext.fresh _ _ _ _ hel, rfl, by rw [r.n]; exact Nat.lt_succ_self _, fun _ => .inl hle⟩⟩
      · have hle : off + l.length * n ≤ off + cap * n := Nat.add_le_add_left (Nat.mul_le_mul_right _ hcap) _
        have hst := Step.grow r s hi htip (m := 0) (by simpa using hle) (w' := w) ⟨rfl, rfl, rfl, rfl, fun _ _ => rfl⟩ (fun cs E h => ⟨cs, h, rfl, fun _ _ => rfl⟩)
        exact ⟨_, _, _, _, _, hrun, hst, .inr ⟨b, off, cap, n, rfl, hcap, RepElems.mono hst.ext _ _ _ _ hel, rfl, by rw [r.n]; exact Nat.lt_succ_self _, fun _ => .inr (by simp [Ctx.grow, r.n])⟩⟩
    rcases src_cells hy hm with ⟨hm0, hy0⟩ | ⟨b2, off2, cap2, rs, hy0, hlen, hcell, hrep, hone⟩
    · exact cells hm0 y hy0
    · rcases Nat.eq_zero_or_pos m.length with h0 | h0
      · exact cells (List.eq_nil_of_length_eq_zero h0) y ⟨_, _, by rw [hy0, h0]⟩
      · subst hy0
        obtain ⟨os, k1, k2, k3⟩ := sl_cells hel
        by_cases hroom : l.length + m.length ≤ cap
        · -- there is room
          have hlt : off + l.length * n < off + cap * n := by
            have : l.length * n < cap * n := Nat.mul_lt_mul_of_pos_right (by omega) hpos
            omega
          have htip : C.tip tok = some (b, off + l.length * n, off + cap * n) := htk.resolve_left (by omega)
          obtain ⟨g1, g2, ⟨cs, E, g3, g4⟩, g5, g6⟩ := r.tips tok _ _ _ hlv.2 htip
          have hfit : off + l.length * n + rs.length ≤ cs.size := by
            have : (l.length + m.length) * n ≤ cap * n := Nat.mul_le_mul_right _ hroom
            rw [Nat.add_mul] at this
            omega
          have hfc := run_firstCells_some (P := P) w ti.size m.length ⟨b2, off2, none⟩ m.length cap2 rs (by rw [i2]; exact hlen) hcell
          have hst := run_storeCells_at P b (off + l.length * n) E rs 0 cs w g3 (by simpa using hfit) hone
          simp only [Nat.add_zero] at hst
          have hrun : (Builtin.append_ #[t, t] ty #[.slice (some ⟨b, off, none⟩) l.length cap, .slice (some ⟨b2, off2, none⟩) m.length cap2]).run P w = .ok (.slice (some ⟨b, off, none⟩) (l.length + m.length) cap)
              (w.setRow b (cs.toList.take (off + l.length * n) ++ rs ++ cs.toList.drop (off + l.length * n + rs.length)).toArray) := by
            subst i2
            simp [Builtin.append_, run_underlying hT.u, sizeOf, typeInfo, i1, Builtin.lenOf, hroom, hfc, addr_add, hst]
          have hnewsz : (cs.toList.take (off + l.length * n) ++ rs ++ cs.toList.drop (off + l.length * n + rs.length)).toArray.size = cs.size := by
            simp; omega
          have hset := setRow_heap w b cs (cs.toList.take (off + l.length * n) ++ rs ++ cs.toList.drop (off + l.length * n + rs.length)).toArray E (0, 0) g3
          have hst2 := Step.grow r s hi htip (m := m.length * n) (by
              have : (l.length + m.length) * n ≤ cap * n := Nat.mul_le_mul_right _ hroom
              rw [Nat.add_mul] at this
              omega) (w' := w.setRow b (cs.toList.take (off + l.length * n) ++ rs ++ cs.toList.drop (off + l.length * n + rs.length)).toArray) (OnlyBlk.setRow g3) (fun cs' E' h => by
              rw [g3] at h
              cases h
              exact ⟨_, hset, hnewsz, fun j hj => by
                have hj' : j < (cs.toList.take (off + l.length * n)).length := by simp; omega
                simp only [List.getElem?_toArray]
                rw [List.append_assoc, List.getElem?_append_left hj', List.getElem?_take, if_pos hj]
                simp⟩)
          refine ⟨_, _, _, _, _, hrun, hst2, .inr ⟨b, off, cap, n, by rw [List.length_append], by rw [List.length_append]; exact hroom, ?_, rfl, by rw [r.n]; exact Nat.lt_succ_self _, fun _ => .inr ?_⟩⟩
          · refine RepElems.of (l ++ m) off (os ++ rs) (fun c hc => ?_) (by rw [List.flatten_append]; exact (RepL.mono hst2.ext _ _ k3).append (RepL.mono hst2.ext _ _ hrep)) fun j v hj => ?_
            · rcases List.mem_append.1 hc with hc | hc
              · obtain ⟨q, hq⟩ := List.mem_iff_getElem?.1 hc
                exact (hel.get hq).1
              · exact (hm c hc).1
            · rw [List.getElem?_append] at hj
              split at hj
              · have := k2 j v hj
                exact ⟨by rw [hst2.ext.cell _ _ this.2]; exact this.1, .inl this.2⟩
              · have hq := (List.getElem?_eq_some_iff.1 hj).1
                rw [k1] at hj hq
                refine ⟨?_, .inr ⟨rfl, by omega, by omega⟩⟩
                simp only [World.cell?, hset]
                simp only [List.getElem?_toArray]
                have hle : off + l.length * n ≤ cs.toList.length := by simp; omega
                have := getElem?_mid (cs.toList.take (off + l.length * n)) rs (cs.toList.drop (off + l.length * n + rs.length)) (j - l.length * n) hq
                rw [List.length_take, Nat.min_eq_left hle, show off + l.length * n + (j - l.length * n) = off + j by omega, hj] at this
                simpa using this
          · simp only [Ctx.grow, r.n, if_true]
            rw [List.length_append, Nat.add_mul, ← Nat.add_assoc]
        · -- a new row
          have holds : ∀ (j : Nat) (v : Value), os[j]? = some v → w.cell? ((⟨b, off, none⟩ : Addr).add j) = some v := fun j v hj => by rw [addr_add]; exact (k2 j v hj).1
          have hr := run_append_grow (P := P) w t ty e ti z hT.u i1 i4 ⟨b, off, none⟩ l.length cap os (by rw [i2]; exact k1) holds ⟨b2, off2, none⟩ m.length cap2 rs (by rw [i2]; exact hlen) hcell (by omega) (by omega) (by rw [i3]; exact growslice_fits (by omega) hb)
          have hge := grownCap_ge w (l.length + m.length) cap e
          have hst : Step C S w H (C.row w.heap.size ((l ++ m).length * n) (grownCap w (l.length + m.length) cap e * n)) S.row _ (H.pushT S.next) := Step.row r s (.inr rfl) (rs := os.toArray ++ rs.toArray ++ Builtin.zeroCells z.cells (grownCap w (l.length + m.length) cap e - (l.length + m.length))) (E := e) (by
            simp only [Array.size_append, List.size_toArray, size_zeroCells, i5, hlen, k1, ← Nat.add_mul]
            exact Nat.mul_le_mul_right _ (by omega))
          have hrp := rep_row r (.inr rfl) (l := l ++ m) (os := os ++ rs) (rs := os.toArray ++ rs.toArray ++ Builtin.zeroCells z.cells (grownCap w (l.length + m.length) cap e - (l.length + m.length))) (E := e) (n := n) (by rw [List.flatten_append]; exact k3.append hrep) (fun c hc => by
              rcases List.mem_append.1 hc with hc | hc
              · obtain ⟨q, hq⟩ := List.mem_iff_getElem?.1 hc
                exact (hel.get hq).1
              · exact (hm c hc).1) (fun j v hj => by
            rw [Array.getElem?_append_left (by simpa using (List.getElem?_eq_some_iff.1 hj).1)]
            simpa using hj) (cap := grownCap w (l.length + m.length) cap e) (by rw [List.length_append]; exact hge) (lim := grownCap w (l.length + m.length) cap e * n) rfl
          rw [List.length_append] at hrp hst
          exact ⟨_, _, _, _, _, hr, hst.sub (H.swap_sub i S.next), hrp⟩

theorem exec_append {x y : Operand} {t t2 : TypeId} {ρ : Operand → Value} {w w' : World} {rv : Value} (ho : o.op = .call ⟨.builtin .append, #[x, y], #[t, t2]⟩) (h : (Builtin.append_ #[t, t2] o.type #[ρ x, ρ y]).run P w = .ok rv w') : (execOp ρ o).run P w = .ok (.value rv) w' := by
  have e : execOp ρ o = (do pure (.value (← Builtin.append_ #[t, t2] o.type #[ρ x, ρ y]))) := by
    simp only [execOp, ho, resolve, invoke, builtin, List.map_toArray, List.map_cons, List.map_nil, pure_bind]
  rw [e]
  simp only [Sem.run_bind, h, Result.andThen_ok, Sem.run_pure]

theorem w_append_nl {t e n bytes : Nat} {x y : Operand} {tk2 : Tok} {m : List (List VV)} {K : VV → HH → Prop} (ho : o.op = .call ⟨.builtin .append, #[x, y], #[t, t]⟩) (hT : ElemTy P t e n bytes) (hx : EvO env x (.sl .nl [])) (hy : EvO env y (.sl tk2 m))
    (hm : elemsOK n m) (hb : m.length * bytes ≤ 140737488355328) (h63 : m.length ≤ 9223372036854775807) (hK : ∀ t', K (.sl (.cap t' n) m) (H.pushT t')) : WOp P o env H K := by
  intro C S w N a r s ok nx Q hn
  have h1 : Rep C w (.sl .nl []) (a.eval x) := hx.rep ok
  have h1 : a.eval x = .slice none 0 0 := by
    rcases h1 with ⟨_, h⟩ | ⟨_, _, _, _, _, _, _, h⟩
    · exact h.resolve_right fun hh => by cases hh.1
    · exact h.elim
  have h2 : Rep C w (.sl tk2 m) (a.eval y) := hy.rep ok
  obtain ⟨rv, w', C', S', t', h3, h4, h5⟩ := append_nil r s (ty := o.type) hT h2 hm hb h63
  unfold Oper.wp
  rw [exec_append ho (by rw [h1]; exact h3), Oper.upon_value]
  exact hn _ _ _ _ _ _ h4 h5 (hK t')

theorem w_append_cap {t e n bytes : Nat} {x y : Operand} {tk2 : Tok} {l m : List (List VV)} {i tok : Nat} {K : VV → HH → Prop} (ho : o.op = .call ⟨.builtin .append, #[x, y], #[t, t]⟩) (hT : ElemTy P t e n bytes) (hx : EvO env x (.sl (.cap tok n) l)) (hi : H.toks[i]? = some tok) (hy : EvO env y (.sl tk2 m))
    (hm : elemsOK n m) (hb : (l.length + m.length) * bytes ≤ 140737488355328) (h63 : l.length + m.length ≤ 9223372036854775807) (hK : ∀ t', K (.sl (.cap t' n) (l ++ m)) (H.swapT i t')) : WOp P o env H K := by
  intro C S w N a r s ok nx Q hn
  have h1 : Rep C w (.sl (.cap tok n) l) (a.eval x) := hx.rep ok
  have h2 : Rep C w (.sl tk2 m) (a.eval y) := hy.rep ok
  obtain ⟨rv, w', C', S', t', h3, h4, h5⟩ := append_cap r s (ty := o.type) hT hi h1 h2 hm hb h63
  unfold Oper.wp
  rw [exec_append ho h3, Oper.upon_value]
  exact hn _ _ _ _ _ _ h4 h5 (hK t')

end Go.AV
