/- Readings: what a law's arguments read as tells of their abstract values; a law's end. -/
import Derived.Test.YtgclbdndnbgnoaaDoorVz
import Derived.Carry
import Derived.SizedLaws
import Derived.OpenShut
import Derived.ChangeArms
import Derived.ChangeOld
import Derived.KernelRfl
namespace Go.AV
open Go.RowKit (Below)
open Go.WideShapes
set_option linter.all false

/-- At a law's start nobody writes what is there. -/
def C0 (W : World) : Ctx := ⟨W.heap.size, 0, fun b _ => b < W.heap.size, fun _ => 0, fun _ => none, fun _ => false⟩
def S0 : AS := ⟨0, fun _ => none, fun _ => false⟩
theorem cell_lt {W : World} {a : Addr} {r : Value} (h : W.cell? a = some r) : a.block < W.heap.size ∧ a.spot = none := by
  unfold World.cell? at h
  split at h
  · rename_i c _ _ he
    refine ⟨(Array.getElem?_eq_some_iff.1 he).1, ?_⟩
    split at h
    · cases h
    · rename_i hs; simpa using hs
  · cases h
theorem rel0 (W : World) (hfix : ∀ b cs, fixTab b = some cs → ∃ t f, W.heap[b]? = some (.cells cs.toArray t f)) : Rel (C0 W) S0 W :=
  ⟨rfl, Nat.le_refl _, fun _ _ h => (by cases h), fun _ _ h => absurd rfl h, fun _ h => absurd rfl h, fun _ _ h => h, fun _ _ _ _ h => (by cases h), fun _ _ _ _ h => (by cases h), fun _ h => (by cases h), fun b cs h => ⟨by obtain ⟨_, _, hh⟩ := hfix b cs h; exact (Array.getElem?_eq_some_iff.1 hh).1, hfix b cs h⟩⟩
theorem sat0 : Sat S0 (hq [] []) := ⟨fun _ h => (by cases h), List.nodup_nil, fun _ h => (by cases h), List.nodup_nil⟩

variable {P : Program} {W : World}

/-- What is read at the type t, in so many steps, is of this form. -/
def RdT (P : Program) (W : World) (N : Nat) (t : TypeId) {α : Type} (c : α → List VV) (Q : α → Prop) : Prop :=
  ∀ (H : Type) (enc : TypeId × Value → H) (fuel : Nat) (cs : List Value) (x : DataW H × List MemPlace), fuel ≤ N → DataW.trod enc P W 0 (fun _ => true) true fuel t cs = some x → ∃ a, Q a ∧ RepL (C0 W) W (c a) cs

theorem RdT.map {N : Nat} {t : TypeId} {α β : Type} {c : α → List VV} {Q : α → Prop} {c' : β → List VV} {Q' : β → Prop} (h : RdT P W N t c Q) (g : α → β) (hc : ∀ a, Q a → c' (g a) = c a ∧ Q' (g a)) : RdT P W N t c' Q' :=
  fun H enc fuel cs x hf hx => by
    obtain ⟨a, ha, hr⟩ := h H enc fuel cs x hf hx
    exact ⟨g a, (hc a ha).2, by rw [(hc a ha).1]; exact hr⟩
theorem RdT.le {N M : Nat} {t : TypeId} {α : Type} {c : α → List VV} {Q : α → Prop} (h : RdT P W N t c Q) (hm : M ≤ N) : RdT P W M t c Q := fun H enc fuel cs x hf => h H enc fuel cs x (Nat.le_trans hf hm)
theorem RdT.zero {t : TypeId} {α : Type} {c : α → List VV} {Q : α → Prop} : RdT P W 0 t c Q := fun H enc fuel cs x hf hx => by
  obtain rfl : fuel = 0 := by omega
  simp [DataW.trod] at hx

theorem rd_int {t : TypeId} {k : IntKind} (hu : P.underlying t = some (.int k)) (N : Nat) : RdT P W N t (fun n : Int => [.int k n]) (fun n => k.min ≤ n ∧ n ≤ k.max) := fun H enc fuel cs x _ hx => by
  obtain ⟨n, rfl, _, hw⟩ := DataW.trod_int hu hx
  refine ⟨n, ?_, _, _, rfl, rfl, rfl⟩
  simpa [Lit.wf] using hw
theorem rd_bool {t : TypeId} (hu : P.underlying t = some .bool) (N : Nat) : RdT P W N t (fun b : Bool => [.bool b]) (fun _ => True) := fun H enc fuel cs x _ hx => by
  obtain ⟨b, rfl, _⟩ := DataW.trod_bool hu hx
  exact ⟨b, trivial, _, _, rfl, rfl, rfl⟩
theorem rd_string {t : TypeId} (hu : P.underlying t = some .string) (N : Nat) : RdT P W N t (fun s : ByteArray => [.str s]) (fun s => s.size ≤ maxLen) := fun H enc fuel cs x _ hx => by
  obtain ⟨s, rfl, _, hs⟩ := DataW.trod_string hu hx
  exact ⟨s, hs, _, _, rfl, rfl, rfl⟩

theorem repCells_of : ∀ (vs : List VV) (cs : List Value) (b off : Nat), RepL (C0 W) W vs cs → (∀ i, i < cs.length → W.cell? ⟨b, off + i, none⟩ = cs[i]?) → RepCells (C0 W) W vs b off
  | [], _, _, _, _, _ => trivial
  | v :: vs, cs, b, off, hr, hc => by
    obtain ⟨r, rest, rfl, h1, h2⟩ := hr
    have h0 := hc 0 (by simp)
    rw [Nat.add_zero] at h0
    simp only [List.getElem?_cons_zero] at h0
    refine ⟨⟨(cell_lt h0).1, r, h0, h1⟩, repCells_of vs rest b (off + 1) h2 fun i hi => ?_⟩
    have := hc (i + 1) (by simpa using hi)
    rw [List.getElem?_cons_succ] at this
    rw [← this]
    congr 2
    omega

theorem repElems_of {α : Type} {c : α → List VV} {Q : α → Prop} {k : Nat} (hlen : ∀ a, (c a).length = k) : ∀ (m b off : Nat), (∀ i, i < m → ∃ cs a, W.cells? 0 ⟨b, off + i * k, none⟩ k = some cs ∧ Q a ∧ RepL (C0 W) W (c a) cs) →
    ∃ l : List α, l.length = m ∧ (∀ a ∈ l, Q a) ∧ RepElems (C0 W) W k (l.map c) b off
  | 0, b, off, _ => ⟨[], rfl, fun _ h => (by cases h), trivial⟩
  | m + 1, b, off, h => by
    obtain ⟨cs, a, h1, h2, h3⟩ := h 0 (by omega)
    obtain ⟨l, l1, l2, l3⟩ := repElems_of hlen m b (off + k) fun i hi => by
      have := h (i + 1) (by omega)
      rw [show off + k + i * k = off + (i + 1) * k by rw [Nat.succ_mul]; omega]
      exact this
    rw [Nat.zero_mul, Nat.add_zero] at h1
    obtain ⟨_, g1, g2⟩ := World.cells?_some h1
    refine ⟨a :: l, by simp [l1], fun x hx => ?_, hlen a, repCells_of _ cs b off h3 fun i hi => by have := g2 i (by omega); rwa [addr_add] at this, l3⟩
    rcases List.mem_cons.1 hx with rfl | hx
    · exact h2
    · exact l2 x hx

theorem rd_slice {N k : Nat} {t e : TypeId} {α : Type} {c : α → List VV} {Q : α → Prop} (hu : P.underlying t = some (.slice e)) (hk : P.cellsOf e = k) (hp : 0 < k) (hlen : ∀ a, (c a).length = k) (he : RdT P W N e c Q) :
    RdT P W (N + 1) t (fun l : List α => [.sl .fz (l.map c)]) (fun l => ∀ a ∈ l, Q a) := fun H enc fuel cs x hf hx => by
  subst hk
  rcases DataW.trod_slice hu hx with ⟨rfl, _⟩ | ⟨⟨b, off, spot⟩, len, cap, elems, rest, n, rfl, rfl, rfl, _, hl, hm, hlen', hel, hsp, _⟩
  · exact ⟨[], fun _ h => (by cases h), _, _, rfl, .inl ⟨rfl, .inl rfl⟩, rfl⟩
  · obtain ⟨hrl, hr⟩ := hsp rfl
    have each : ∀ i, i < cap → ∃ cs a, W.cells? 0 ((⟨b, off, spot⟩ : Addr).add (i * P.cellsOf e)) (P.cellsOf e) = some cs ∧ Q a ∧ RepL (C0 W) W (c a) cs := fun i hi => by
      have key : ∃ y, (W.cells? 0 ((⟨b, off, spot⟩ : Addr).add (i * P.cellsOf e)) (P.cellsOf e)).bind (DataW.trod enc P W 0 (fun _ => true) true n e) = some y := by
        by_cases h1 : i < len
        · exact ⟨elems[i]'(by omega), by rw [hel i h1, List.getElem?_eq_getElem (by omega)]⟩
        · have := hr (i - len) (by omega)
          rw [show len + (i - len) = i by omega] at this
          exact ⟨rest[i - len]'(by omega), by rw [this, List.getElem?_eq_getElem (by omega)]⟩
      obtain ⟨y, hy⟩ := key
      rw [Option.bind_eq_some_iff] at hy
      obtain ⟨cs, h1, h2⟩ := hy
      obtain ⟨a, h3, h4⟩ := he H enc n cs y (by omega) h2
      exact ⟨cs, a, h1, h3, h4⟩
    by_cases h0 : cap = 0
    · subst h0
      obtain rfl : len = 0 := by omega
      exact ⟨[], fun _ h => (by cases h), _, _, rfl, .inl ⟨rfl, .inr ⟨rfl, _, rfl⟩⟩, rfl⟩
    · have hs : spot = none := by
        obtain ⟨cs, a, h1, _⟩ := each 0 (by omega)
        obtain ⟨_, h2, h3⟩ := World.cells?_some h1
        have := h3 0 hp
        rw [List.getElem?_eq_getElem (l := cs) (i := 0) (by omega), Nat.zero_mul] at this
        exact (cell_lt this).2
      subst hs
      obtain ⟨l, l1, l2, l3⟩ := repElems_of (W := W) hlen len b off fun i hi => by have := each i (by omega); rwa [addr_add] at this
      refine ⟨l, l2, _, _, rfl, .inr ⟨b, off, cap, _, by rw [List.length_map, l1], by rw [List.length_map, l1]; exact hl, l3, trivial⟩, rfl⟩

/-- A struct's fields from a place on. -/
def RdF (P : Program) (W : World) (N : Nat) (fs : List Field) (off total : Nat) {α : Type} (c : α → List VV) (Q : α → Prop) : Prop :=
  ∀ (H : Type) (enc : TypeId × Value → H) (fuel : Nat) (cs : List Value), fuel ≤ N → cs.length = total → (∀ f ∈ fs, ∃ x, DataW.trod enc P W 0 (fun _ => true) true fuel f.type ((cs.drop f.offset).take (P.cellsOf f.type)) = some x) → ∃ a, Q a ∧ RepL (C0 W) W (c a) (cs.drop off)

theorem rdf_nil {N total : Nat} : RdF P W N [] total total (fun _ : Unit => []) (fun _ => True) := fun H enc fuel cs _ hl _ => ⟨(), trivial, by
  rw [List.drop_eq_nil_of_le (by omega)]; rfl⟩
theorem repL_append {C : Ctx} {w : World} : ∀ {vs us : List VV} {rs qs : List Value}, RepL C w vs rs → RepL C w us qs → RepL C w (vs ++ us) (rs ++ qs)
  | [], us, rs, qs, h, k => by obtain rfl : rs = [] := h; exact k
  | v :: vs, us, rs, qs, h, k => by
    obtain ⟨r, rest, rfl, h1, h2⟩ := h
    exact ⟨r, rest ++ qs, rfl, h1, repL_append h2 k⟩
theorem rdf_cons {N total off off' n : Nat} {f : Field} {fs : List Field} {α β : Type} {c : α → List VV} {Q : α → Prop} {d : β → List VV} {R : β → Prop} (ho : f.offset = off) (hn : P.cellsOf f.type = n) (h' : off + n = off') (h : RdT P W N f.type c Q) (hs : RdF P W N fs off' total d R) :
    RdF P W N (f :: fs) off total (fun x : α × β => c x.1 ++ d x.2) (fun x => Q x.1 ∧ R x.2) := fun H enc fuel cs hf hl ha => by
  subst h'; subst hn; subst ho
  obtain ⟨x, hx⟩ := ha f List.mem_cons_self
  obtain ⟨a, a1, a2⟩ := h H enc fuel _ x hf hx
  obtain ⟨b, b1, b2⟩ := hs H enc fuel cs hf hl fun g hg => ha g (List.mem_cons_of_mem _ hg)
  refine ⟨(a, b), ⟨a1, b1⟩, ?_⟩
  have := repL_append a2 b2
  rwa [← List.drop_drop, List.take_append_drop] at this
theorem rd_struct {N total : Nat} {t : TypeId} {fs : Array Field} {α : Type} {c : α → List VV} {Q : α → Prop} (hu : P.underlying t = some (.struct fs)) (ht : P.cellsOf t = total) (h : RdF P W N fs.toList 0 total c Q) : RdT P W (N + 1) t c Q := fun H enc fuel cs x hf hx => by
  obtain ⟨xs, n, rfl, _, hl, hxl, hi⟩ := DataW.trod_struct hu hx
  obtain ⟨a, a1, a2⟩ := h H enc n cs (by omega) (by omega) fun f hf => by
    obtain ⟨i, hi'⟩ := List.mem_iff_getElem?.1 hf
    have hi2 : fs[i]? = some f := by simpa using hi'
    have hlt : i < xs.length := by rw [hxl]; exact (Array.getElem?_eq_some_iff.1 hi2).1
    exact ⟨xs[i], by rw [hi i f hi2, List.getElem?_eq_getElem hlt]⟩
  exact ⟨a, a1, by simpa using a2⟩
theorem rd_array2 {N k : Nat} {t e : TypeId} {α : Type} {c : α → List VV} {Q : α → Prop} (hu : P.underlying t = some (.array 2 e)) (hk : P.cellsOf e = k) (ht : P.cellsOf t = 2 * k) (h : RdT P W N e c Q) : RdT P W (N + 1) t (fun x : α × α => c x.1 ++ c x.2) (fun x => Q x.1 ∧ Q x.2) := fun H enc fuel cs x hf hx => by
  obtain ⟨xs, n, rfl, _, hl, hxl, hi⟩ := DataW.trod_array hu hx
  subst hk
  have h0 := hi 0 (by omega)
  have h1 := hi 1 (by omega)
  rw [List.getElem?_eq_getElem (by omega)] at h0 h1
  obtain ⟨a, a1, a2⟩ := h H enc n _ _ (by omega) h0
  obtain ⟨b, b1, b2⟩ := h H enc n _ _ (by omega) h1
  refine ⟨(a, b), ⟨a1, b1⟩, ?_⟩
  have := repL_append a2 b2
  rw [Nat.zero_mul, List.drop_zero, Nat.one_mul] at this
  rwa [List.take_of_length_le (l := cs.drop _) (by rw [List.length_drop]; omega), List.take_append_drop] at this

/-! ### Arguments -/
theorem arg_one {C : Ctx} {w : World} {vv : VV} {v : Value} (h : RepL C w [vv] v.cells.toList) (hv : v.cells = #[v]) : Rep C w vv v := by
  obtain ⟨r, rest, h1, h2, _⟩ := h
  rw [hv] at h1
  cases h1
  exact h2
theorem arg_agg {C : Ctx} {w : World} {vs : List VV} {v : Value} (h : RepL C w vs v.cells.toList) (hv : ∃ cs, v = .agg cs) : Rep C w (.agg vs) v := by
  obtain ⟨cs, rfl⟩ := hv
  exact ⟨cs.toList, rfl, h⟩
theorem arg_slice {base : Nat} {t e : TypeId} {v : Value} (hu : P.underlying t = some (.slice e)) (h : Value.okWide P W .any base t v) : v.cells = #[v] := by
  obtain ⟨a, len, cap, rfl⟩ := okWide_slice hu h; rfl
theorem arg_int {base : Nat} {t : TypeId} {k : IntKind} {v : Value} (hu : P.underlying t = some (.int k)) (h : Value.okWide P W .any base t v) : v.cells = #[v] := by
  obtain ⟨n, rfl⟩ := okWide_int hu h; rfl
theorem arg_bool {base : Nat} {t : TypeId} {v : Value} (hu : P.underlying t = some .bool) (h : Value.okWide P W .any base t v) : v.cells = #[v] := by
  obtain ⟨n, rfl⟩ := okWide_bool hu h; rfl
theorem arg_string {base : Nat} {t : TypeId} {v : Value} (hu : P.underlying t = some .string) (h : Value.okWide P W .any base t v) : v.cells = #[v] := by
  obtain ⟨n, rfl⟩ := okWide_string hu h; rfl
theorem arg_struct {base : Nat} {t : TypeId} {fs : Array Field} {v : Value} (hu : P.underlying t = some (.struct fs)) (h : Value.okWide P W .any base t v) : ∃ cs, v = .agg cs := by
  simp only [Value.okWide, hu] at h
  obtain ⟨cs, h, _⟩ := h
  exact ⟨cs, h⟩
theorem arg_array {base n : Nat} {t e : TypeId} {v : Value} (hu : P.underlying t = some (.array n e)) (h : Value.okWide P W .any base t v) : ∃ cs, v = .agg cs := by
  simp only [Value.okWide, hu] at h
  obtain ⟨cs, h, _⟩ := h
  exact ⟨cs, h⟩

/-- The law's end: it told true, and wrote nothing that was there. -/
theorem law_end {f : FuncId} {vs : List VV} {args : List Value} (hv : VCalls P f vs (hq [] []) (fun v H => .bool true = v ∧ H = hq [] [])) (hr : RepL (C0 W) W vs args) (hfix : ∀ b cs, fixTab b = some cs → ∃ t f, W.heap[b]? = some (.cells cs.toArray t f) := by intro _ _ h; cases h) :
    Calls P f args.toArray W fun e W' => e = .returned (.bool true) ∧ Below W.heap.size W W' :=
  (hv (C0 W) S0 W args (rel0 W hfix) sat0 hr).mono fun e W' ⟨v, rv, C', S', H', he, st, rp, hv, _⟩ => by
    subst hv
    obtain rfl : rv = .bool true := rp
    exact ⟨he, st.ext.below⟩
end Go.AV
