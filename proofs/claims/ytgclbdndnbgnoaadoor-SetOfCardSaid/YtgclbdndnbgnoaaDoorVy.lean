/- Maps: as lists of pairs, in the order in which the keys came. -/
import Derived.Test.YtgclbdndnbgnoaaDoorVx
namespace Go.AV
open Go.RowKit (Below)
set_option linter.all false
variable {P : Program} {env : Env} {o : Oper} {H : HH}

section plain
variable {K V : Type} [DecidableEq K]
def findAt (k : K) : List K → Nat → Option Nat
  | [], _ => none
  | a :: t, i => if a = k then some i else findAt k t (i + 1)
def mput : List (K × V) → K → V → List (K × V)
  | [], k, v => [(k, v)]
  | p :: t, k, v => if p.1 = k then (k, v) :: t else p :: mput t k v
def mget : List (K × V) → K → Option V
  | [], _ => none
  | p :: t, k => if p.1 = k then some p.2 else mget t k
def mdel : List (K × V) → K → List (K × V)
  | [], _ => []
  | p :: t, k => if p.1 = k then t else p :: mdel t k
theorem findAt_get (k : K) : ∀ (l : List (K × V)) (s : Nat), (findAt k (l.map Prod.fst) s = none ∧ mget l k = none) ∨ ∃ i v, findAt k (l.map Prod.fst) s = some (s + i) ∧ l[i]? = some (k, v) ∧ mget l k = some v
  | [], s => .inl ⟨rfl, rfl⟩
  | p :: t, s => by
    simp only [List.map_cons, findAt, mget]
    by_cases c : p.1 = k
    · rw [if_pos c, if_pos c]
      exact .inr ⟨0, p.2, rfl, by simp [← c], rfl⟩
    · rw [if_neg c, if_neg c]
      rcases findAt_get k t (s + 1) with h | ⟨i, v, h1, h2, h3⟩
      · exact .inl h
      · exact .inr ⟨i + 1, v, by rw [h1]; congr 1; omega, by simpa using h2, h3⟩
end plain

theorem baBeq (a b : ByteArray) : (a == b) = decide (a = b) := by
  have h := MapKept.bytes_beq a b
  by_cases c : a = b
  · rw [decide_eq_true c]; exact h.2 c
  · rw [decide_eq_false c]
    cases hh : a == b with
    | false => rfl
    | true => exact absurd (h.1 hh) c

/-- Keys of a kind that is compared by itself. -/
structure KeyOK (P : Program) (kt : TypeId) {K : Type} [DecidableEq K] (ke : K → VV) (kv : K → Value) : Prop where
  rep : ∀ C w k rv, Rep C w (ke k) rv → rv = kv k
  put : ∀ C w k, Rep C w (ke k) (kv k)
  chk : ∀ b k w, (Instr.checkKey b 10000 kt (kv k)).run P w = .ok () w
  find : ∀ (k : K) (ks : List K) (rs : List MapEntry) (w : World), rs.map (·.key) = ks.map kv → (Instr.findKey kt (kv k) rs).run P w = .ok ((findAt k ks 0).bind fun i => (rs[i]?).map fun r => (i, r.val)) w
  same : ∀ k, Instr.sameBits 10000 (kv k) (kv k) = true

theorem keyInt {kt : TypeId} {kk : IntKind} (hu : P.underlying kt = some (.int kk)) : KeyOK P kt (fun n : Int => .int kk n) (fun n => .int kk n) where
  rep := fun _ _ _ _ h => h
  put := fun _ _ _ => rfl
  chk := fun b k w => by
    have := run_underlying hu w
    unfold Instr.checkKey
    simp only [Sem.run_bind, this, Result.andThen_ok]
    rfl
  find := fun k ks rs w hk => by
    have key : ∀ (ks : List Int) (rs : List MapEntry) (s : Nat), rs.map (·.key) = ks.map (fun n => Value.int kk n) → Instr.findNow (.int kk) (.int kk k) rs s = some ((findAt k ks s).bind fun i => (rs[i - s]?).map fun r => (i, r.val)) := by
      intro ks
      induction ks with
      | nil =>
        intro rs s h
        obtain rfl : rs = [] := by simpa using h
        rfl
      | cons a t ih =>
        intro rs s h
        match rs, h with
        | r :: rs, h =>
          simp only [List.map_cons, List.cons.injEq] at h
          have e : Instr.sameNow (.int kk) (.int kk k) r.key = some (k == a) := by
            rw [h.1]; simp [Instr.sameNow]
          unfold Instr.findNow
          rw [e]
          by_cases c : a = k
          · subst c
            simp [findAt]
          · have c' : (k == a) = false := by rw [beq_eq_false_iff_ne]; exact fun h => c h.symm
            rw [c']
            simp only [findAt, if_neg c]
            rw [ih rs (s + 1) h.2]
            have ge : ∀ (ks : List Int) (s i : Nat), findAt k ks s = some i → s ≤ i := by
              intro ks
              induction ks with
              | nil => intro s i h; cases h
              | cons b ks ih2 =>
                intro s i h
                simp only [findAt] at h
                split at h
                · cases h; exact Nat.le_refl _
                · have := ih2 _ _ h; omega
            cases hf : findAt k t (s + 1) with
            | none => rfl
            | some i =>
              have := ge _ _ _ hf
              simp only [Option.bind_some]
              rw [show i - s = (i - (s + 1)) + 1 by omega, List.getElem?_cons_succ]
    have := run_underlying hu w
    unfold Instr.findKey
    simp only [Sem.run_bind, this, Result.andThen_ok, key ks rs 0 hk]
    rfl
  same := fun k => by simp [Instr.sameBits]

theorem keyStr {kt : TypeId} (hu : P.underlying kt = some .string) : KeyOK P kt (fun s : ByteArray => .str s) (fun s => .string s) where
  rep := fun _ _ _ _ h => h
  put := fun _ _ _ => rfl
  chk := fun b k w => by
    have := run_underlying hu w
    unfold Instr.checkKey
    simp only [Sem.run_bind, this, Result.andThen_ok]
    rfl
  find := fun k ks rs w hk => by
    have key : ∀ (ks : List ByteArray) (rs : List MapEntry) (s : Nat), rs.map (·.key) = ks.map (fun n => Value.string n) → Instr.findNow .string (.string k) rs s = some ((findAt k ks s).bind fun i => (rs[i - s]?).map fun r => (i, r.val)) := by
      intro ks
      induction ks with
      | nil =>
        intro rs s h
        obtain rfl : rs = [] := by simpa using h
        rfl
      | cons a t ih =>
        intro rs s h
        match rs, h with
        | r :: rs, h =>
          simp only [List.map_cons, List.cons.injEq] at h
          have e : Instr.sameNow .string (.string k) r.key = some (k == a) := by
            rw [h.1]; rfl
          unfold Instr.findNow
          rw [e]
          by_cases c : a = k
          · subst c
            rw [baBeq, decide_eq_true rfl]
            simp [findAt]
          · have c' : (k == a) = false := by rw [baBeq]; exact decide_eq_false fun h => c h.symm
            rw [c']
            simp only [findAt, if_neg c]
            rw [ih rs (s + 1) h.2]
            have ge : ∀ (ks : List ByteArray) (s i : Nat), findAt k ks s = some i → s ≤ i := by
              intro ks
              induction ks with
              | nil => intro s i h; cases h
              | cons b ks ih2 =>
                intro s i h
                simp only [findAt] at h
                split at h
                · cases h; exact Nat.le_refl _
                · have := ih2 _ _ h; omega
            cases hf : findAt k t (s + 1) with
            | none => rfl
            | some i =>
              have := ge _ _ _ hf
              simp only [Option.bind_some]
              rw [show i - s = (i - (s + 1)) + 1 by omega, List.getElem?_cons_succ]
    have := run_underlying hu w
    unfold Instr.findKey
    simp only [Sem.run_bind, this, Result.andThen_ok, key ks rs 0 hk]
    rfl
  same := fun k => by simp [Instr.sameBits, baBeq]

theorem RepEntries.get {C : Ctx} {w : World} : ∀ {es : List (VV × VV)} {rs : List MapEntry}, RepEntries C w es rs → rs.length = es.length ∧ ∀ (i : Nat) (e : VV × VV), es[i]? = some e → ∃ r : MapEntry, rs[i]? = some r ∧ Rep C w e.1 r.key ∧ Rep C w e.2 r.val
  | [], rs, h => by obtain rfl : rs = [] := h; exact ⟨rfl, fun i e h => by simp at h⟩
  | e :: es, rs, h => by
    obtain ⟨r, rest, rfl, h1, h2, h3⟩ := h
    obtain ⟨k1, k2⟩ := RepEntries.get h3
    refine ⟨by simp [k1], fun i x hx => ?_⟩
    cases i with
    | zero => simp at hx; subst hx; exact ⟨r, rfl, h1, h2⟩
    | succ i => simpa using k2 i x (by simpa using hx)

section rules
variable {K V : Type} [DecidableEq K] {ke : K → VV} {kv : K → Value} {ve : V → VV} {mt kt et : TypeId}

theorem keys_of {C : Ctx} {w : World} (hK : KeyOK P kt ke kv) : ∀ {l : List (K × V)} {rs : List MapEntry}, RepEntries C w (l.map fun p => (ke p.1, ve p.2)) rs → rs.map (·.key) = (l.map Prod.fst).map kv
  | [], rs, h => by obtain rfl : rs = [] := h; rfl
  | p :: l, rs, h => by
    obtain ⟨r, rest, rfl, h1, _, h3⟩ := h
    simp only [List.map_cons, hK.rep _ _ _ _ h1, keys_of hK h3]

theorem put_hit {C : Ctx} {w : World} (hK : KeyOK P kt ke kv) {k : K} {x : V} {rv : Value} (hx : Rep C w (ve x) rv) : ∀ {l : List (K × V)} {rs : List MapEntry} {s i : Nat}, RepEntries C w (l.map fun p => (ke p.1, ve p.2)) rs → findAt k (l.map Prod.fst) s = some (s + i) →
    RepEntries C w ((mput l k x).map fun p => (ke p.1, ve p.2)) (rs.modify i fun r => { r with key := kv k, val := rv })
  | [], rs, s, i, _, hf => by simp [findAt] at hf
  | p :: l, rs, s, i, h, hf => by
    obtain ⟨r, rest, rfl, h1, h2, h3⟩ := h
    simp only [List.map_cons, findAt] at hf
    by_cases c : p.1 = k
    · rw [if_pos c] at hf
      obtain rfl : i = 0 := by have := Option.some.inj hf; omega
      simp only [mput, if_pos c, List.map_cons, List.modify_zero_cons]
      exact ⟨_, _, rfl, hK.put _ _ _, hx, h3⟩
    · rw [if_neg c] at hf
      have ge : ∀ (ks : List K) (s i : Nat), findAt k ks s = some i → s ≤ i := by
        intro ks
        induction ks with
        | nil => intro s i h; cases h
        | cons b ks ih2 =>
          intro s i h
          simp only [findAt] at h
          split at h
          · cases h; exact Nat.le_refl _
          · have := ih2 _ _ h; omega
      have hge := ge _ _ _ hf
      obtain ⟨j, rfl⟩ : ∃ j, i = j + 1 := ⟨i - 1, by omega⟩
      simp only [mput, if_neg c, List.map_cons, List.modify_succ_cons]
      exact ⟨_, _, rfl, h1, h2, put_hit hK hx h3 (by rw [hf]; congr 1; omega)⟩
theorem put_miss {C : Ctx} {w : World} (hK : KeyOK P kt ke kv) {k : K} {x : V} {rv : Value} {b : Nat} (hx : Rep C w (ve x) rv) : ∀ {l : List (K × V)} {rs : List MapEntry} {s : Nat}, RepEntries C w (l.map fun p => (ke p.1, ve p.2)) rs → findAt k (l.map Prod.fst) s = none →
    RepEntries C w ((mput l k x).map fun p => (ke p.1, ve p.2)) (rs ++ [{ key := kv k, val := rv, born := b }])
  | [], rs, s, h, _ => by
    obtain rfl : rs = [] := h
    exact ⟨_, _, rfl, hK.put _ _ _, hx, rfl⟩
  | p :: l, rs, s, h, hf => by
    obtain ⟨r, rest, rfl, h1, h2, h3⟩ := h
    simp only [List.map_cons, findAt] at hf
    by_cases c : p.1 = k
    · rw [if_pos c] at hf; cases hf
    · rw [if_neg c] at hf
      simp only [mput, if_neg c, List.map_cons, List.cons_append]
      exact ⟨_, _, rfl, h1, h2, put_miss hK hx h3 hf⟩

theorem OnlyBlk.setObj {w : World} {b : Nat} {ob : Obj} : OnlyBlk w { w with heap := w.heap.setIfInBounds b ob } b :=
  ⟨rfl, rfl, rfl, by simp, fun k hk => by simp [Array.getElem?_setIfInBounds, Ne.symm hk]⟩
theorem RepEntries.mono {C C' : Ctx} {w w' : World} (h : Ext C w C' w') : ∀ {es : List (VV × VV)} {rs : List MapEntry}, RepEntries C w es rs → RepEntries C' w' es rs
  | [], rs, hr => hr
  | e :: es, rs, hr => by
    obtain ⟨r, rest, e1, h1, h2, h3⟩ := hr
    exact ⟨r, rest, e1, Rep.mono h _ _ h1, Rep.mono h _ _ h2, RepEntries.mono h h3⟩

theorem w_makeMap {E : VV → HH → Prop} (ho : o.op = .makeMap mt none) (hE : ∀ ob, E (.map ob) (H.push ob (.map []))) : WOp P o env H E := by
  intro C S w N a r s ok nx Q hn
  unfold Oper.wp
  have e : (execOp a.eval o).run P w = .ok (.value (.map (some w.heap.size))) (w.alloc (.map #[] 0)) := by
    have e1 : execOp a.eval o = (do pure (.value (← Instr.makeMap mt none))) := by simp only [execOp, ho]; rfl
    rw [e1]
    simp only [Sem.run_bind, Go.RowKit.run_makeMap, Result.andThen_ok, Sem.run_pure]
  rw [e, Oper.upon_value]
  have hc : ObjRep (C.new w.heap.size) (w.alloc (.map #[] 0)) w.heap.size (.map []) := ⟨[], 0, alloc_new _ _, rfl, List.nodup_nil, fun _ h => by cases h⟩
  refine hn _ _ _ _ _ (.map S.next) (Step.new r s hc) ⟨?_, ?_⟩ (hE S.next)
  · show S.next < C.n + 1
    rw [r.n]; exact Nat.lt_succ_self _
  · have : (C.new w.heap.size).σ S.next = w.heap.size := by simp [Ctx.new, r.n]
    rw [this]

/-- m[k] = x, of a literal or of a statement. -/
theorem w_mapPut {i ob : Nat} {m x y : Operand} {l : List (K × V)} {k : K} {v : V} {E : VV → HH → Prop} (ho : o.op = .mapUpdate mt m x y ∨ o.op = .insert mt m x y) (hu : P.underlying mt = some (.map kt et)) (hK : KeyOK P kt ke kv)
    (hm : EvO env m (.map ob)) (hx : EvO env x (ke k)) (hy : EvO env y (ve v)) (hH : H.objs[i]? = some (ob, .map (l.map fun p => (ke p.1, ve p.2)))) (hE : E .any (H.setAt i (.map ((mput l k v).map fun p => (ke p.1, ve p.2))))) : WOp P o env H E := by
  intro C S w N a r s ok nx Q hn
  obtain ⟨hob, h1⟩ : Rep C w (.map ob) (a.eval m) := hm.rep ok
  have h2 : a.eval x = kv k := hK.rep _ _ _ _ (hx.rep ok)
  have h3 : Rep C w (ve v) (a.eval y) := hy.rep ok
  obtain ⟨hlt, hB, rs, clock, hb, hL, hnd, hcl⟩ := r.objs ob _ (s.obj hH)
  have hkeys := keys_of hK hL
  have hul := run_underlying hu w
  have hfind := hK.find k (l.map Prod.fst) rs w hkeys
  have hchk := hK.chk false k w
  have hblk : C.σ ob < w.heap.size := (Array.getElem?_eq_some_iff.1 hb).1
  have eop : execOp a.eval o = (do Instr.mapUpdate mt (a.eval m) (a.eval x) (a.eval y); pure .skip) := by
    rcases ho with ho | ho <;> simp only [execOp, ho]
  have key : ∃ rs' clock', (Instr.mapUpdate mt (.map (some (C.σ ob))) (kv k) (a.eval y)).run P w = .ok () { w with heap := w.heap.setIfInBounds (C.σ ob) (.map rs'.toArray clock') } ∧ RepEntries C w ((mput l k v).map fun p => (ke p.1, ve p.2)) rs' ∧ (rs'.map (·.born)).Nodup ∧ ∀ q ∈ rs', q.born < clock' := by
    have hget : (getObj (C.σ ob)).run P w = .ok (.map rs.toArray clock) w := by simp [getObj, Sem.run, hb]
    have hset : ∀ ob', (setObj (C.σ ob) ob').run P w = .ok () { w with heap := w.heap.setIfInBounds (C.σ ob) ob' } := fun ob' => by simp [setObj, Sem.run, hb]
    rcases findAt_get k l 0 with ⟨f1, _⟩ | ⟨j, u, f1, f2, _⟩
    · refine ⟨rs ++ [{ key := kv k, val := a.eval y, born := clock }], clock + 1, ?_, put_miss hK h3 hL f1, ?_, fun q hq => ?_⟩
      · unfold Instr.mapUpdate
        simp only [Sem.run_bind, hul, Result.andThen_ok, hget, hchk, hfind, f1, Option.bind_none, hset]
        simp
      · rw [List.map_append, List.nodup_append]
        refine ⟨hnd, by simp, fun x hx y hy => ?_⟩
        obtain ⟨q, hq, rfl⟩ := List.mem_map.1 hx
        simp at hy
        have := hcl q hq
        omega
      · rcases List.mem_append.1 hq with hq | hq
        · have := hcl q hq; omega
        · simp at hq; subst hq; exact Nat.lt_succ_self _
    · rw [Nat.zero_add] at f1
      have hlen := (RepEntries.get hL).1
      have hj : j < rs.length := by rw [hlen, List.length_map]; exact (List.getElem?_eq_some_iff.1 f2).1
      have hkj : rs[j].key = kv k := by
        have := congrArg (·[j]?) hkeys
        simp only [List.getElem?_map, List.getElem?_eq_getElem hj, f2, Option.map_some] at this
        exact Option.some.inj this
      refine ⟨rs.modify j fun r => { r with key := kv k, val := a.eval y }, clock, ?_, put_hit (s := 0) hK h3 hL (by rw [f1, Nat.zero_add]), ?_, fun q hq => ?_⟩
      · unfold Instr.mapUpdate
        have e1 : (Instr.keyThatStays (((rs.toArray[j]?).map (·.key)).getD (kv k)) (kv k)).run P w = .ok (kv k) w := by
          have : ((rs.toArray[j]?).map (·.key)).getD (kv k) = kv k := by simp [List.getElem?_eq_getElem hj, hkj]
          rw [this]
          unfold Instr.keyThatStays
          rw [if_pos (hK.same k)]
          rfl
        simp only [Sem.run_bind, hul, Result.andThen_ok, hget, hchk, hfind, f1, Option.bind_some, List.getElem?_eq_getElem hj, Option.map_some, e1, hset]
        simp
      · have : (rs.modify j fun r => { r with key := kv k, val := a.eval y }).map (·.born) = rs.map (·.born) := by
          apply List.ext_getElem?
          intro q
          simp only [List.getElem?_map, List.getElem?_modify]
          split <;> cases rs[q]? <;> rfl
        rw [this]; exact hnd
      · obtain ⟨p, hp⟩ := List.mem_iff_getElem?.1 hq
        rw [List.getElem?_modify] at hp
        cases hq2 : rs[p]? with
        | none => rw [hq2] at hp; simp at hp
        | some r =>
          rw [hq2] at hp
          have := hcl r (List.mem_of_getElem? hq2)
          split at hp <;> simp at hp <;> subst hp <;> exact this
  obtain ⟨rs', clock', hrun, hR, hnd', hcl'⟩ := key
  unfold Oper.wp
  have e : (execOp a.eval o).run P w = .ok .skip { w with heap := w.heap.setIfInBounds (C.σ ob) (.map rs'.toArray clock') } := by
    rw [eop, h1, h2]
    simp only [Sem.run_bind, hrun, Result.andThen_ok]
    rfl
  rw [e, Oper.upon_skip]
  have hol : OnlyBlk w { w with heap := w.heap.setIfInBounds (C.σ ob) (.map rs'.toArray clock') } (C.σ ob) := OnlyBlk.setObj
  have ext : Ext C w C { w with heap := w.heap.setIfInBounds (C.σ ob) (.map rs'.toArray clock') } := Ext.write hol hB (r.objK ob (by have := s.obj hH; simp at this; rw [this]; simp))
  exact hn _ _ _ _ _ .any (Step.write r s hH (c' := .map ((mput l k v).map fun p => (ke p.1, ve p.2))) hol ⟨rs', clock', by simp [Array.getElem?_setIfInBounds, hblk], RepEntries.mono ext hR, hnd', hcl'⟩) trivial hE

/-- m[k], the value or the zero. -/
theorem r_lookup {i ob : Nat} {m x : Operand} {l : List (K × V)} {k : K} {z : V} (ho : o.op = .lookup mt m x false) (hu : P.underlying mt = some (.map kt et)) (hK : KeyOK P kt ke kv) (hm : EvO env m (.map ob)) (hx : EvO env x (ke k))
    (hz : ∀ C w, ∃ rv, (zeroValue et).run P w = .ok rv w ∧ Rep C w (ve z) rv) (hH : H.objs[i]? = some (ob, .map (l.map fun p => (ke p.1, ve p.2)))) : ROp P o env H (ve ((mget l k).getD z)) := by
  intro C S w N a r s ok
  obtain ⟨hob, h1⟩ : Rep C w (.map ob) (a.eval m) := hm.rep ok
  have h2 : a.eval x = kv k := hK.rep _ _ _ _ (hx.rep ok)
  obtain ⟨hlt, hB, rs, clock, hb, hL, hnd, hcl⟩ := r.objs ob _ (s.obj hH)
  have hul := run_underlying hu w
  have hfind := hK.find k (l.map Prod.fst) rs w (keys_of hK hL)
  have hchk := hK.chk rs.toArray.isEmpty k w
  have hget : (getObj (C.σ ob)).run P w = .ok (.map rs.toArray clock) w := by simp [getObj, Sem.run, hb]
  have eop : execOp a.eval o = (do pure (.value (← Instr.lookup mt (a.eval m) (a.eval x) false))) := by simp only [execOp, ho]
  rw [eop, h1, h2]
  rcases findAt_get k l 0 with ⟨f1, f2⟩ | ⟨j, u, f1, f2, f3⟩
  · obtain ⟨rv, z1, z2⟩ := hz C w
    refine ⟨rv, ?_, by rw [f2]; exact z2⟩
    unfold Instr.lookup
    simp only [Sem.run_bind, hul, Result.andThen_ok, hget, hchk, hfind, f1, Option.bind_none, z1, Sem.run_pure]
    rfl
  · rw [Nat.zero_add] at f1
    obtain ⟨q, q1, _, q2⟩ := (RepEntries.get hL).2 j (ke k, ve u) (by rw [List.getElem?_map, f2]; rfl)
    refine ⟨q.val, ?_, by rw [f3]; exact q2⟩
    unfold Instr.lookup
    simp only [Sem.run_bind, hul, Result.andThen_ok, hget, hchk, hfind, f1, Option.bind_some, q1, Option.map_some, Sem.run_pure]
    rfl
end rules
end Go.AV
