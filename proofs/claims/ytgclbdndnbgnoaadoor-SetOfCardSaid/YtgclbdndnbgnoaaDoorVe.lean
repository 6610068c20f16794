/- Loads; changes of memory. -/
import Derived.Test.YtgclbdndnbgnoaaDoorVd
import Derived.Laws.CopyRow
import Derived.Laws.Cells
import Derived.ArgAppend
namespace Go.AV
set_option linter.all false
open Go.RowKit (Below)
variable {P : Program} {env : Env} {o : Oper} {H : HH}

theorem RepCells.cells {C : Ctx} {w : World} : ∀ {cs : List VV} {b off : Nat}, RepCells C w cs b off →
    ∃ rs : List Value, (∀ j r, rs[j]? = some r → w.cell? ⟨b, off + j, none⟩ = some r ∧ C.K b (off + j)) ∧ RepL C w cs rs
  | [], _, _, _ => ⟨[], fun j r h => by simp at h, rfl⟩
  | c :: cs, b, off, h => by
    unfold RepCells at h
    obtain ⟨⟨hK, r, h1, h2⟩, h3⟩ := h
    obtain ⟨rs, h4, h5⟩ := RepCells.cells h3
    refine ⟨r :: rs, fun j s hs => ?_, r, rs, rfl, h2, h5⟩
    cases j with
    | zero => simp at hs; subst hs; exact ⟨h1, hK⟩
    | succ j =>
      have := h4 j s (by simpa using hs)
      rw [show off + (j + 1) = off + 1 + j by omega]
      exact this

theorem RepCells.of {C : Ctx} {w : World} : ∀ {cs : List VV} {rs : List Value} {b off : Nat}, RepL C w cs rs → (∀ j r, rs[j]? = some r → w.cell? ⟨b, off + j, none⟩ = some r ∧ C.K b (off + j)) → RepCells C w cs b off
  | [], _, _, _, _, _ => trivial
  | c :: cs, rs, b, off, h, k => by
    unfold RepL at h
    obtain ⟨r, rest, e, h1, h2⟩ := h
    subst e
    have k0 := k 0 r rfl
    refine ⟨⟨k0.2, r, k0.1, h1⟩, RepCells.of h2 fun j s hs => ?_⟩
    have := k (j + 1) s (by simpa using hs)
    rw [show off + 1 + j = off + (j + 1) by omega]
    exact this

/-- A load out of cells that are known. -/
theorem run_load_cells {t n : Nat} {agg : Bool} (hs : SizeTy P t n agg) {C : Ctx} {w : World} {cs : List VV} {rs : List Value} (h : RepL C w cs rs) {b off : Nat}
    (hc : ∀ j r, rs[j]? = some r → w.cell? ⟨b, off + j, none⟩ = some r) {v : VV} (hv : ofCells agg n cs = some v) :
    ∃ rv, (loadVar t ⟨b, off, none⟩).run P w = .ok rv w ∧ Rep C w v rv := by
  have h1 := run_isAgg hs w
  have h2 := run_sizeOf hs.s w
  cases agg with
  | true =>
    simp only [ofCells, if_true] at hv
    split at hv
    · rename_i hle
      cases hv
      have hlen : (rs.take n).length = n := by rw [List.length_take, ← h.get.1]; omega
      refine ⟨.agg (rs.take n).toArray, ?_, _, rfl, h.take n⟩
      have h3 := run_loadCells_list (P := P) w ⟨b, off, none⟩ (rs.take n) (fun j v hj => by
        rw [addr_add]
        rw [List.getElem?_take] at hj
        split at hj
        · exact hc j v hj
        · cases hj)
      rw [hlen] at h3
      unfold loadCells at h3
      unfold loadVar
      simp [go_sem, h1, h2, h3]
    · cases hv
  | false =>
    simp only [ofCells, Bool.false_eq_true, if_false] at hv
    obtain ⟨r, h3, h4⟩ := h.get.2 0 v hv
    refine ⟨r, ?_, h4⟩
    have h5 := hc 0 r h3
    simp only [Nat.add_zero] at h5
    unfold loadVar
    simp [go_sem, h1, h5]

theorem r_load_v {t n : Nat} {agg : Bool} {x : Operand} {cs : List VV} {v : VV} (ho : o.op = .load t x) (hs : SizeTy P t n agg) (hx : EvO env x (.vptr cs)) (hv : ofCells agg n cs = some v) : ROp P o env H v := by
  intro C S w N a r s ok
  obtain ⟨b, off, h1, hc⟩ : Rep C w (.vptr cs) (a.eval x) := hx.rep ok
  generalize a.eval = ρ at *
  obtain ⟨rs, h2, h3⟩ := hc.cells
  obtain ⟨rv, h4, h5⟩ := run_load_cells hs h3 (fun j r hj => (h2 j r hj).1) hv
  refine ⟨rv, ?_, h5⟩
  have e : execOp ρ o = (do pure (.value (← loadVar t ⟨b, off, none⟩))) := by
    simp only [execOp, ho, h1, Instr.loadAt, Instr.sureAddr]; rfl
  rw [e]
  simp only [Sem.run_bind, h4, Result.andThen_ok]
  rfl

theorem Sat.obj {S : AS} (s : Sat S H) {i : Nat} {p : Nat × AObj} (h : H.objs[i]? = some p) : S.obj p.1 = some p.2 := s.objs p (List.mem_of_getElem? h)

theorem r_load_p {t n : Nat} {agg : Bool} {x : Operand} {ob off i : Nat} {cs : List VV} {v : VV} (ho : o.op = .load t x) (hs : SizeTy P t n agg) (hx : EvO env x (.ptr ob off)) (hH : H.objs[i]? = some (ob, .cells cs)) (hv : ofCells agg n (cs.drop off) = some v) : ROp P o env H v := by
  intro C S w N a r s ok
  obtain ⟨hob, h1⟩ : Rep C w (.ptr ob off) (a.eval x) := hx.rep ok
  generalize a.eval = ρ at *
  obtain ⟨_, _, rs, E, hb, hl⟩ := r.objs ob _ (s.obj hH)
  obtain ⟨rv, h4, h5⟩ := run_load_cells hs (hl.drop off) (b := C.σ ob) (off := off) (fun j r hj => by
    have hj : rs[off + j]? = some r := by simpa using hj
    simp [World.cell?, hb, hj]) hv
  refine ⟨rv, ?_, h5⟩
  have e : execOp ρ o = (do pure (.value (← loadVar t ⟨C.σ ob, off, none⟩))) := by
    simp only [execOp, ho, h1, Instr.loadAt, Instr.sureAddr]; rfl
  rw [e]
  simp only [Sem.run_bind, h4, Result.andThen_ok]
  rfl

/-! ### New objects -/
def AS.new (S : AS) (c : AObj) : AS := ⟨S.next + 1, fun o => if o = S.next then some c else S.obj o, S.live⟩
def Ctx.new (C : Ctx) (b : Nat) : Ctx := { C with n := C.n + 1, σ := fun o => if o = C.n then b else C.σ o }

theorem Ext.alloc {C : Ctx} {S : AS} {w : World} (r : Rel C S w) (ob : Obj) : Ext C w (C.new w.heap.size) (w.alloc ob) where
  B := rfl
  below := (Below.refl _ _).alloc r.B ob
  n := Nat.le_succ _
  σ := fun o ho => by simp only [Ctx.new]; rw [if_neg (by omega)]
  K := fun _ _ h => h
  cell := fun b j h => World.cell?_alloc_lt (w := w) (a := ⟨b, j, none⟩) _ (r.Kin b j h)
  tip := fun _ _ h => ⟨h, rfl⟩

theorem ObjRep.mono {C C' : Ctx} {w w' : World} (h : Ext C w C' w') {b : Nat} (hb : w'.heap[b]? = w.heap[b]?) {c : AObj} (k : ObjRep C w b c) : ObjRep C' w' b c := by
  cases c with
  | cells cs =>
    obtain ⟨rs, E, h1, h2⟩ := k
    exact ⟨rs, E, by rw [hb]; exact h1, RepL.mono h _ _ h2⟩
  | map es =>
    obtain ⟨rs, cl, h1, h2, h3⟩ := k
    refine ⟨rs, cl, by rw [hb]; exact h1, ?_, h3⟩
    have : ∀ (es : List (VV × VV)) (rs : List MapEntry), RepEntries C w es rs → RepEntries C' w' es rs := by
      intro es
      induction es with
      | nil => intro rs h; exact h
      | cons e es ih =>
        intro rs hr
        obtain ⟨r, rest, e1, h1, h2, h3⟩ := hr
        exact ⟨r, rest, e1, Rep.mono h _ _ h1, Rep.mono h _ _ h2, ih _ h3⟩
    exact this _ _ h2

theorem Rel.blk {C : Ctx} {S : AS} {w : World} (r : Rel C S w) {o : Nat} {c : AObj} (h : S.obj o = some c) : C.σ o < w.heap.size := by
  have := (r.objs o c h).2.2
  cases c with
  | cells cs => obtain ⟨rs, E, h1, _⟩ := this; exact (Array.getElem?_eq_some_iff.1 h1).1
  | map es => obtain ⟨rs, cl, h1, _⟩ := this; exact (Array.getElem?_eq_some_iff.1 h1).1

theorem Rel.new {C : Ctx} {S : AS} {w : World} (r : Rel C S w) {ob : Obj} {c : AObj} (hc : ObjRep (C.new w.heap.size) (w.alloc ob) w.heap.size c) : Rel (C.new w.heap.size) (S.new c) (w.alloc ob) := by
  have ext := Ext.alloc r ob
  have old : ∀ b, b < w.heap.size → (w.alloc ob).heap[b]? = w.heap[b]? := fun b hb => Below.heap_alloc w ob b hb
  have hσ : ∀ o c', S.obj o = some c' → (C.new w.heap.size).σ o = C.σ o := fun o c' ho => ext.σ o (r.objs o c' ho).1
  refine ⟨by simp [AS.new, Ctx.new, r.n], Nat.le_trans r.B (by simp), fun o c' ho => ?_, fun o o' h1 h2 e => ?_, fun o ho j hK => ?_, fun b j h => ?_, fun t b e lim hv ht => ?_, r.tipInj, fun t ht => ⟨Nat.lt_succ_of_lt (r.live t ht).1, (r.live t ht).2⟩, fix_ext ext r.fix⟩
  · simp only [AS.new] at ho
    split at ho
    · rename_i e
      cases ho
      rw [r.n] at e
      subst e
      refine ⟨Nat.lt_succ_self _, ?_, ?_⟩
      · simp only [Ctx.new, if_true]; exact r.B
      · simp only [Ctx.new, if_true]; exact hc
    · have := r.objs o c' ho
      refine ⟨Nat.lt_succ_of_lt this.1, ?_, ?_⟩
      · rw [hσ o c' ho]; exact this.2.1
      · rw [hσ o c' ho]; exact this.2.2.mono ext (old _ (r.blk ho))
  · simp only [AS.new] at h1 h2
    simp only [Ctx.new, r.n] at e h1 h2
    have key : ∀ o, o ≠ C.n → S.obj o ≠ none → C.σ o < w.heap.size := fun o _ h => by
      cases hc : S.obj o with
      | none => exact absurd hc h
      | some c => exact r.blk hc
    by_cases e1 : o = C.n <;> by_cases e2 : o' = C.n
    · rw [e1, e2]
    · rw [if_pos e1, if_neg e2] at e
      rw [if_neg e2] at h2
      have := key o' e2 h2
      omega
    · rw [if_neg e1, if_pos e2] at e
      rw [if_neg e1] at h1
      have := key o e1 h1
      omega
    · rw [if_neg e1, if_neg e2] at e
      rw [if_neg e1] at h1
      rw [if_neg e2] at h2
      exact r.inj o o' h1 h2 e
  · simp only [AS.new, r.n] at ho
    simp only [Ctx.new] at hK
    by_cases e1 : o = C.n
    · rw [if_pos e1] at hK
      have := r.Kin _ _ hK
      omega
    · rw [if_neg e1] at hK ho
      exact r.objK o ho j hK
  · have := r.Kin b j h
    simp; omega
  · obtain ⟨h1, h2, ⟨cs, E, h3, h4⟩, h5, h6⟩ := r.tips t b e lim hv ht
    have hb : b < w.heap.size := (Array.getElem?_eq_some_iff.1 h3).1
    refine ⟨Nat.lt_succ_of_lt h1, h2, ⟨cs, E, by rw [old b hb]; exact h3, h4⟩, h5, fun o ho => ?_⟩
    simp only [AS.new, r.n] at ho
    simp only [Ctx.new]
    by_cases e1 : o = C.n
    · rw [if_pos e1]; omega
    · rw [if_neg e1] at ho ⊢
      exact h6 o ho

def HH.push (H : HH) (o : Nat) (c : AObj) : HH := ⟨(o, c) :: H.objs, H.toks⟩

theorem Sat.idlt {C : Ctx} {S : AS} {w : World} (r : Rel C S w) (s : Sat S H) : ∀ o ∈ H.ids, o < S.next := fun o ho => by
  obtain ⟨p, hp, rfl⟩ := List.mem_map.1 ho
  exact r.lt (by rw [s.objs p hp]; simp)

theorem Step.new {C : Ctx} {S : AS} {w : World} (r : Rel C S w) (s : Sat S H) {ob : Obj} {c : AObj} (hc : ObjRep (C.new w.heap.size) (w.alloc ob) w.heap.size c) :
    Step C S w H (C.new w.heap.size) (S.new c) (w.alloc ob) (H.push S.next c) := by
  have hlt := s.idlt r
  refine ⟨Ext.alloc r ob, r.new hc, ⟨fun p hp => ?_, ?_, fun t ht => s.toks t ht, s.tnodup⟩, fun o ho _ => ?_, fun o ho _ => ?_, fun _ _ _ => rfl, fun o ho => ?_, fun t ht => .inl ht⟩
  · rcases List.mem_cons.1 hp with hp | hp
    · subst hp; simp [AS.new]
    · have : p.1 ≠ S.next := by have := hlt p.1 (List.mem_map.2 ⟨p, hp, rfl⟩); omega
      simp only [AS.new]
      rw [if_neg this]
      exact s.objs p hp
  · simp only [HH.ids, HH.push, List.map_cons]
    refine List.nodup_cons.2 ⟨fun h => ?_, s.nodup⟩
    have := hlt _ h
    omega
  · simp only [AS.new]; rw [if_neg (by omega)]
  · cases hc : S.obj o with
    | none => exact absurd hc ho
    | some c => exact Below.heap_alloc w ob _ (r.blk hc)
  · rcases List.mem_cons.1 ho with ho | ho
    · right; rw [ho]; exact Nat.le_refl _
    · exact .inl ho

/-! ### An object is written -/
def AS.set (S : AS) (o : Nat) (c : AObj) : AS := ⟨S.next, fun x => if x = o then some c else S.obj x, S.live⟩
def HH.setAt (H : HH) (i : Nat) (c : AObj) : HH := ⟨H.objs.modify i fun p => (p.1, c), H.toks⟩

/-- w' is w but for block b. -/
structure OnlyBlk (w w' : World) (b : Nat) : Prop where
  os : w'.os = w.os
  tape : w'.tape = w.tape
  output : w'.output = w.output
  size : w'.heap.size = w.heap.size
  blk : ∀ k, k ≠ b → w'.heap[k]? = w.heap[k]?

theorem Ext.write {C : Ctx} {w w' : World} {b : Nat} (h : OnlyBlk w w' b) (hB : C.B ≤ b) (hK : ∀ j, ¬ C.K b j) : Ext C w C w' where
  B := rfl
  below := ⟨h.os, h.tape, h.output, Nat.le_of_eq h.size.symm, fun k hk => h.blk k (by omega)⟩
  n := Nat.le_refl _
  σ := fun _ _ => rfl
  K := fun _ _ h => h
  cell := fun c j hk => World.cell?_of_block (w := w) (a := ⟨c, j, none⟩) (h.blk c (fun e => hK j (e ▸ hk)))
  tip := fun _ _ h => ⟨h, rfl⟩

theorem Step.write {C : Ctx} {S : AS} {w w' : World} (r : Rel C S w) (s : Sat S H) {i o : Nat} {c c' : AObj} (hi : H.objs[i]? = some (o, c)) (h : OnlyBlk w w' (C.σ o)) (hc : ObjRep C w' (C.σ o) c') :
    Step C S w H C (S.set o c') w' (H.setAt i c') := by
  have ho := s.obj hi
  obtain ⟨hn, hB, hold⟩ := r.objs o c ho
  have ext : Ext C w C w' := Ext.write h hB (r.objK o (by rw [ho]; simp))
  have ids : (H.setAt i c').ids = H.ids := by
    simp only [HH.ids, HH.setAt]
    apply List.ext_getElem?
    intro j
    simp only [List.getElem?_map, List.getElem?_modify]
    split <;> cases H.objs[j]? <;> rfl
  have mem : ∀ p ∈ (H.setAt i c').objs, (p = (o, c')) ∨ (p ∈ H.objs ∧ p.1 ≠ o) := by
    intro p hp
    obtain ⟨j, hj⟩ := List.mem_iff_getElem?.1 hp
    simp only [HH.setAt, List.getElem?_modify] at hj
    by_cases e : i = j
    · subst e
      rw [hi] at hj
      simp at hj
      exact .inl hj.symm
    · simp only [e, if_false] at hj
      have hj : H.objs[j]? = some p := by simpa using hj
      refine .inr ⟨List.mem_of_getElem? hj, fun e1 => ?_⟩
      have nd := s.nodup
      have h1 : H.ids[i]? = some o := by simp [HH.ids, hi]
      have h2 : H.ids[j]? = some o := by simp [HH.ids, hj, e1]
      have hli := (List.getElem?_eq_some_iff.1 h1)
      have hlj := (List.getElem?_eq_some_iff.1 h2)
      rcases Nat.lt_or_gt_of_ne e with hlt | hlt
      · exact List.pairwise_iff_getElem.1 nd i j hli.1 hlj.1 hlt (hli.2.trans hlj.2.symm)
      · exact List.pairwise_iff_getElem.1 nd j i hlj.1 hli.1 hlt (hlj.2.trans hli.2.symm)
  refine ⟨ext, ⟨r.n, by rw [h.size]; exact r.B, fun x cx hx => ?_, fun x y hx hy e => ?_, fun x hx j hK => ?_, fun b j hK => by rw [h.size]; exact r.Kin b j hK, fun t b e lim hv ht => ?_, r.tipInj, r.live, fix_ext ext r.fix⟩,
    ⟨fun p hp => ?_, by rw [ids]; exact s.nodup, s.toks, s.tnodup⟩, fun x hx hH => ?_, fun x hx hH => ?_, fun _ _ _ => rfl, fun x hx => ?_, fun t ht => .inl ht⟩
  · simp only [AS.set] at hx
    split at hx
    · rename_i e; subst e; cases hx; exact ⟨hn, hB, hc⟩
    · rename_i ne
      obtain ⟨h1, h2, h3⟩ := r.objs x cx hx
      exact ⟨h1, h2, h3.mono ext (h.blk _ fun e => ne (r.inj x o (by rw [hx]; simp) (by rw [ho]; simp) e))⟩
  · refine r.inj x y ?_ ?_ e
    · simp only [AS.set] at hx
      split at hx
      · rename_i e; subst e; rw [ho]; simp
      · exact hx
    · simp only [AS.set] at hy
      split at hy
      · rename_i e; subst e; rw [ho]; simp
      · exact hy
  · refine r.objK x ?_ j hK
    simp only [AS.set] at hx
    split at hx
    · rename_i e; subst e; rw [ho]; simp
    · exact hx
  · obtain ⟨h1, h2, ⟨cs, E, h3, h4⟩, h5, h6⟩ := r.tips t b e lim hv ht
    refine ⟨h1, h2, ⟨cs, E, ?_, h4⟩, h5, fun x hx => ?_⟩
    · rw [h.blk b (fun e => h6 o (by rw [ho]; simp) e.symm)]; exact h3
    · refine h6 x ?_
      simp only [AS.set] at hx
      split at hx
      · rename_i e; subst e; rw [ho]; simp
      · exact hx
  · rcases mem p hp with e | ⟨h1, h2⟩
    · subst e; simp [AS.set]
    · simp only [AS.set]; rw [if_neg h2]; exact s.objs p h1
  · have : x ≠ o := fun e => hH (e ▸ List.mem_map.2 ⟨_, List.mem_of_getElem? hi, rfl⟩)
    simp only [AS.set]; rw [if_neg this]
  · have : x ≠ o := fun e => hH (e ▸ List.mem_map.2 ⟨_, List.mem_of_getElem? hi, rfl⟩)
    exact h.blk _ fun e => this (r.inj x o hx (by rw [ho]; simp) e)
  · rw [ids] at hx; exact .inl hx

end Go.AV
