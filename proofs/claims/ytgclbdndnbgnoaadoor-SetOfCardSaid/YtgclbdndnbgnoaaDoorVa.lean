/- Abstract values, and what it means that the machine's memory represents them. -/
import Derived.Below
namespace Go.AV
set_option linter.all false
open Go.RowKit (Below)

/-- What is known of a slice's right to grow: nothing (fz), it is nil (nl), a live growth token. -/
inductive Tok where
  | fz | nl | cap (t n : Nat)
  deriving DecidableEq

/-- Abstract values. A slice is the list of its elements, each the list of its cells; mutable memory stands by number. -/
inductive VV where
  | bool (b : Bool)
  | int (k : IntKind) (n : Int)
  | str (s : ByteArray)
  | ptr (o off : Nat)
  | pnil
  | vptr (cs : List VV)
  | sl (tk : Tok) (l : List (List VV))
  | ref (o off len : Nat)
  | own (o cap len : Nat)
  | map (o : Nat)
  | mnil
  | func (fn : Fn) (first captured : List VV)
  | fnil
  | iface (t : TypeId) (v : VV)
  | inil
  | agg (cs : List VV)
  | tup (vs : List VV)
  | any

/-- How abstract numbers stand in memory: K: cells that nobody writes; σ: the block of a mutable object; tip: block, first free cell and limit of a growing slice. -/
structure Ctx where
  B : Nat
  n : Nat
  K : Nat → Nat → Prop
  σ : Nat → Nat
  tip : Nat → Option (Nat × Nat × Nat)
  live : Nat → Bool

def TokOK (C : Ctx) : Tok → Nat → Nat → Nat → Nat → Prop
  | .cap t k, n, b, e, lim => k = n ∧ t < C.n ∧ (C.live t = true → lim ≤ e ∨ C.tip t = some (b, e, lim))
  | .fz, _, _, _, _ => True
  | .nl, _, _, _, _ => False

/-- A slice without a row: nil; or, where nothing is known of it, one of no room (its place means nothing). -/
def NilLike (tk : Tok) (rv : Value) : Prop := rv = .slice none 0 0 ∨ (tk = .fz ∧ ∃ a, rv = .slice (some a) 0 0)
theorem NilLike.fz {tk : Tok} {rv : Value} (h : NilLike tk rv) : NilLike .fz rv := h.imp id fun hh => ⟨rfl, hh.2⟩
theorem NilLike.len {tk : Tok} {rv : Value} (h : NilLike tk rv) : ∃ b, rv = .slice b 0 0 := by
  rcases h with h | ⟨_, a, h⟩
  · exact ⟨_, h⟩
  · exact ⟨_, h⟩

mutual
/-- The machine's value 'rv' represents the abstract one. -/
def Rep (C : Ctx) (w : World) : VV → Value → Prop
  | .bool b, rv => rv = .bool b
  | .int k n, rv => rv = .int k n
  | .str s, rv => rv = .string s
  | .ptr o off, rv => o < C.n ∧ rv = .pointer (some ⟨C.σ o, off, none⟩)
  | .pnil, rv => rv = .pointer none
  | .vptr cs, rv => ∃ b off, rv = .pointer (some ⟨b, off, none⟩) ∧ RepCells C w cs b off
  | .sl tk l, rv => (l = [] ∧ NilLike tk rv) ∨
      ∃ b off cap n, rv = .slice (some ⟨b, off, none⟩) l.length cap ∧ l.length ≤ cap ∧ RepElems C w n l b off ∧ TokOK C tk n b (off + l.length * n) (off + cap * n)
  | .ref o off len, rv => o < C.n ∧ ∃ b cap, rv = .slice (some b) len cap ∧ len ≤ cap ∧ (0 < len → b = ⟨C.σ o, off, none⟩)
  | .own o cap len, rv => o < C.n ∧ len ≤ cap ∧ rv = .slice (some ⟨C.σ o, 0, none⟩) len cap
  | .map o, rv => o < C.n ∧ rv = .map (some (C.σ o))
  | .mnil, rv => rv = .map none
  | .func fn f c, rv => ∃ rf rc : List Value, rv = .func fn rf.toArray rc.toArray ∧ RepL C w f rf ∧ RepL C w c rc
  | .fnil, rv => rv = .nilFunc
  | .iface t v, rv => ∃ r, rv = .iface t r ∧ Rep C w v r
  | .inil, rv => rv = .nilIface
  | .agg cs, rv => ∃ rs : List Value, rv = .agg rs.toArray ∧ RepL C w cs rs
  | .tup vs, rv => ∃ rs : List Value, rv = .tuple rs.toArray ∧ RepL C w vs rs
  | .any, _ => True
def RepL (C : Ctx) (w : World) : List VV → List Value → Prop
  | [], rs => rs = []
  | v :: vs, rs => ∃ r rest, rs = r :: rest ∧ Rep C w v r ∧ RepL C w vs rest
def RepCells (C : Ctx) (w : World) : List VV → Nat → Nat → Prop
  | [], _, _ => True
  | v :: vs, b, off => (C.K b off ∧ ∃ r, w.cell? ⟨b, off, none⟩ = some r ∧ Rep C w v r) ∧ RepCells C w vs b (off + 1)
def RepElems (C : Ctx) (w : World) (n : Nat) : List (List VV) → Nat → Nat → Prop
  | [], _, _ => True
  | cs :: l, b, off => cs.length = n ∧ RepCells C w cs b off ∧ RepElems C w n l b (off + n)
end

/-- Mutable objects. -/
inductive AObj where
  | cells (cs : List VV)
  | map (es : List (VV × VV))

/-- The abstract state. -/
structure AS where
  next : Nat
  obj : Nat → Option AObj
  live : Nat → Bool

def RepEntries (C : Ctx) (w : World) : List (VV × VV) → List MapEntry → Prop
  | [], rs => rs = []
  | e :: es, rs => ∃ r rest, rs = r :: rest ∧ Rep C w e.1 r.key ∧ Rep C w e.2 r.val ∧ RepEntries C w es rest

def ObjRep (C : Ctx) (w : World) (b : Nat) : AObj → Prop
  | .cells cs => ∃ (rs : List Value) (E : TypeId), w.heap[b]? = some (.cells rs.toArray E (0, 0)) ∧ RepL C w cs rs
  | .map es => ∃ (rs : List MapEntry) (clock : Nat), w.heap[b]? = some (.map rs.toArray clock) ∧ RepEntries C w es rs ∧
      (rs.map (·.born)).Nodup ∧ ∀ r ∈ rs, r.born < clock

/-- Package-level tables, by block: what they hold, whatever is called. -/
def fixTab : Nat → Option (List Value) := fun b => if b = 0 then some (([1, 10, 100, 1000, 10000, 100000, 1000000, 10000000, 100000000, 1000000000, 10000000000, 100000000000, 1000000000000, 10000000000000, 100000000000000, 1000000000000000, 10000000000000000, 100000000000000000, 1000000000000000000, 10000000000000000000] : List Int).map fun z => Value.int .u64 z) else none

structure Rel (C : Ctx) (S : AS) (w : World) : Prop where
  n : S.next = C.n
  B : C.B ≤ w.heap.size
  objs : ∀ o c, S.obj o = some c → o < C.n ∧ C.B ≤ C.σ o ∧ ObjRep C w (C.σ o) c
  inj : ∀ o o', S.obj o ≠ none → S.obj o' ≠ none → C.σ o = C.σ o' → o = o'
  objK : ∀ o, S.obj o ≠ none → ∀ j, ¬ C.K (C.σ o) j
  Kin : ∀ b j, C.K b j → b < w.heap.size
  tips : ∀ t b e lim, C.live t = true → C.tip t = some (b, e, lim) → t < C.n ∧ C.B ≤ b ∧ (∃ cs E, w.heap[b]? = some (.cells cs E (0, 0)) ∧ lim ≤ cs.size) ∧
    (∀ j, e ≤ j → ¬ C.K b j) ∧ ∀ o, S.obj o ≠ none → C.σ o ≠ b
  tipInj : ∀ t t' x y, C.live t = true → C.live t' = true → C.tip t = some x → C.tip t' = some y → x.1 = y.1 → t = t'
  live : ∀ t, S.live t = true → t < C.n ∧ C.live t = true
  fix : ∀ b cs, fixTab b = some cs → b < C.B ∧ ∃ t f, w.heap[b]? = some (.cells cs.toArray t f)

/-- What goes on from one moment to a later one. -/
structure Ext (C : Ctx) (w : World) (C' : Ctx) (w' : World) : Prop where
  B : C'.B = C.B
  below : Below C.B w w'
  n : C.n ≤ C'.n
  σ : ∀ o, o < C.n → C'.σ o = C.σ o
  K : ∀ b j, C.K b j → C'.K b j
  cell : ∀ b j, C.K b j → w'.cell? ⟨b, j, none⟩ = w.cell? ⟨b, j, none⟩
  tip : ∀ t, t < C.n → C'.live t = true → C.live t = true ∧ C'.tip t = C.tip t

theorem fix_ext {C C' : Ctx} {w w' : World} (h : Ext C w C' w') (k : ∀ b cs, fixTab b = some cs → b < C.B ∧ ∃ t f, w.heap[b]? = some (.cells cs.toArray t f)) : ∀ b cs, fixTab b = some cs → b < C'.B ∧ ∃ t f, w'.heap[b]? = some (.cells cs.toArray t f) :=
  fun b cs hv => ⟨by rw [h.B]; exact (k b cs hv).1, by rw [h.below.block b (k b cs hv).1]; exact (k b cs hv).2⟩

theorem Ext.refl (C : Ctx) (w : World) : Ext C w C w :=
  ⟨rfl, Below.refl _ _, Nat.le_refl _, fun _ _ => rfl, fun _ _ h => h, fun _ _ _ => rfl, fun _ _ h => ⟨h, rfl⟩⟩

theorem Ext.trans {C C1 C2 : Ctx} {w w1 w2 : World} (h : Ext C w C1 w1) (k : Ext C1 w1 C2 w2) : Ext C w C2 w2 :=
  ⟨k.B.trans h.B, h.below.trans (by have := k.below; rw [h.B] at this; exact this), Nat.le_trans h.n k.n,
   fun o ho => (k.σ o (Nat.lt_of_lt_of_le ho h.n)).trans (h.σ o ho), fun b j hK => k.K b j (h.K b j hK),
   fun b j hK => (k.cell b j (h.K b j hK)).trans (h.cell b j hK),
   fun t ht hx => let a := k.tip t (Nat.lt_of_lt_of_le ht h.n) hx; let b := h.tip t ht a.1; ⟨b.1, a.2.trans b.2⟩⟩

theorem TokOK.mono {C C' : Ctx} {w w' : World} (h : Ext C w C' w') {tk : Tok} {n b e lim : Nat} (ht : TokOK C tk n b e lim) : TokOK C' tk n b e lim := by
  cases tk with
  | fz => trivial
  | nl => exact ht
  | cap t k => exact ⟨ht.1, Nat.lt_of_lt_of_le ht.2.1 h.n, fun hx => by have := h.tip t ht.2.1 hx; rw [this.2]; exact ht.2.2 this.1⟩

mutual
theorem Rep.mono {C C' : Ctx} {w w' : World} (h : Ext C w C' w') : ∀ (v : VV) (rv : Value), Rep C w v rv → Rep C' w' v rv
  | .bool _, _, hr => hr
  | .int _ _, _, hr => hr
  | .str _, _, hr => hr
  | .ptr o off, rv, hr => by
    unfold Rep at hr ⊢
    exact ⟨Nat.lt_of_lt_of_le hr.1 h.n, by rw [h.σ o hr.1]; exact hr.2⟩
  | .pnil, _, hr => hr
  | .vptr cs, rv, hr => by
    unfold Rep at hr ⊢
    obtain ⟨b, off, e, hc⟩ := hr
    exact ⟨b, off, e, RepCells.mono h cs b off hc⟩
  | .sl tk l, rv, hr => by
    unfold Rep at hr ⊢
    rcases hr with hr | ⟨b, off, cap, n, e, hle, hc, ht⟩
    · exact .inl hr
    · exact .inr ⟨b, off, cap, n, e, hle, RepElems.mono h n l b off hc, ht.mono h⟩
  | .ref o off len, rv, hr => by
    unfold Rep at hr ⊢
    obtain ⟨ho, b, cap, e, hc, e2⟩ := hr
    exact ⟨Nat.lt_of_lt_of_le ho h.n, b, cap, e, hc, fun hl => by rw [h.σ o ho]; exact e2 hl⟩
  | .own o cap len, rv, hr => by
    unfold Rep at hr ⊢
    exact ⟨Nat.lt_of_lt_of_le hr.1 h.n, hr.2.1, by rw [h.σ o hr.1]; exact hr.2.2⟩
  | .map o, rv, hr => by
    unfold Rep at hr ⊢
    exact ⟨Nat.lt_of_lt_of_le hr.1 h.n, by rw [h.σ o hr.1]; exact hr.2⟩
  | .mnil, _, hr => hr
  | .func fn f c, rv, hr => by
    unfold Rep at hr ⊢
    obtain ⟨rf, rc, e, h1, h2⟩ := hr
    exact ⟨rf, rc, e, RepL.mono h f rf h1, RepL.mono h c rc h2⟩
  | .fnil, _, hr => hr
  | .iface t v, rv, hr => by
    unfold Rep at hr ⊢
    obtain ⟨r, e, h1⟩ := hr
    exact ⟨r, e, Rep.mono h v r h1⟩
  | .inil, _, hr => hr
  | .agg cs, rv, hr => by
    unfold Rep at hr ⊢
    obtain ⟨rs, e, h1⟩ := hr
    exact ⟨rs, e, RepL.mono h cs rs h1⟩
  | .tup vs, rv, hr => by
    unfold Rep at hr ⊢
    obtain ⟨rs, e, h1⟩ := hr
    exact ⟨rs, e, RepL.mono h vs rs h1⟩
  | .any, _, _ => trivial
theorem RepL.mono {C C' : Ctx} {w w' : World} (h : Ext C w C' w') : ∀ (vs : List VV) (rs : List Value), RepL C w vs rs → RepL C' w' vs rs
  | [], _, hr => hr
  | v :: vs, rs, hr => by
    unfold RepL at hr ⊢
    obtain ⟨r, rest, e, h1, h2⟩ := hr
    exact ⟨r, rest, e, Rep.mono h v r h1, RepL.mono h vs rest h2⟩
theorem RepCells.mono {C C' : Ctx} {w w' : World} (h : Ext C w C' w') : ∀ (vs : List VV) (b off : Nat), RepCells C w vs b off → RepCells C' w' vs b off
  | [], _, _, _ => trivial
  | v :: vs, b, off, hr => by
    unfold RepCells at hr ⊢
    obtain ⟨⟨hK, r, hc, h1⟩, h2⟩ := hr
    exact ⟨⟨h.K _ _ hK, r, by rw [h.cell _ _ hK]; exact hc, Rep.mono h v r h1⟩, RepCells.mono h vs b (off + 1) h2⟩
theorem RepElems.mono {C C' : Ctx} {w w' : World} (h : Ext C w C' w') (n : Nat) : ∀ (l : List (List VV)) (b off : Nat), RepElems C w n l b off → RepElems C' w' n l b off
  | [], _, _, _ => trivial
  | cs :: l, b, off, hr => by
    unfold RepElems at hr ⊢
    exact ⟨hr.1, RepCells.mono h cs b off hr.2.1, RepElems.mono h n l b (off + n) hr.2.2⟩
end
end Go.AV
