/- Several operations that leave what is owned as it stands, in whatever order. -/
import Derived.Test.YtgclbdndnbgnoaaDoorVn
namespace Go.AV
set_option linter.all false
variable {P : Program} {N : Nat} {env : Env} {H : HH} {ops : Array Oper} {K : Env → HH → Prop} {l : List Oper}

theorem EnvOK.lks {C : Ctx} {w : World} {t' : List (Nat × VV)} {a : Act} (k : EnvOK C w N env a) (h : ∀ i v, lk t' i = some v → lk env.t i = some v) : EnvOK C w N ⟨t', env.ds⟩ a :=
  ⟨k.size, fun i v hv => k.get i v (h i v hv), k.ds⟩
theorem VA.lks {t' : List (Nat × VV)} {fuel : Nat} {listed : Array Bool} (hs : ∀ i v, lk t' i = some v → lk env.t i = some v) (h : VA P N ops K fuel listed ⟨t', env.ds⟩ H) : VA P N ops K fuel listed env H :=
  fun C S w a r s k => h C S w a r s (k.lks hs)
theorem WOp.lks {o : Oper} {t' : List (Nat × VV)} {K1 : VV → HH → Prop} (hs : ∀ i v, lk t' i = some v → lk env.t i = some v) (h : WOp P o ⟨t', env.ds⟩ H K1) : WOp P o env H K1 :=
  fun C S w N a r s k => h C S w N a r s (k.lks hs)
theorem VA1.skip {i j d : Nat} {b : Bool} {u : VV} {o : Oper} {fuel : Nat} {listed : Array Bool} (hi : ops[i]? = some o) (hg : o.guard = some (j, b)) (hj : (ops[j]?).bind (·.dst) = some d) (hb : lk env.t d = some u) (hne : notB b u = true)
    (hd : dstOK o N = true) (hn : VA P N ops K fuel (listed.setIfInBounds i true) (env.put o.dst (.tup [])) H) : VA1 P N ops K fuel listed i env H := by
  intro C S w a r s k
  unfold wpOp
  simp only [hi]
  rw [if_neg (by simp [unwanted_of k hg hj hb hne])]
  exact hn C S w _ r s (k.put (dstOK.spec hd) rep_undef)

/-- An operation that may come up: its number, where its value goes, the value, the numbers of those whose values it needs. -/
structure It where
  i : Nat
  d : Nat
  u : VV
  ds : List Nat

def pen (p : List It) (f : It → Bool) : List (Nat × VV) := (p.filter f).map fun it => (it.d, it.u)
def hasN : List Nat → Nat → Bool
  | [], _ => false
  | x :: l, n => Nat.beq x n || hasN l n

/-- Its value, where those that it needs have come up. -/
def Wants (P : Program) (ops : Array Oper) (H : HH) (o : Oper) (u : VV) (e : Env) : Prop :=
  (((o.guard = none) ∨ ∃ j d b, o.guard = some (j, b) ∧ (ops[j]?).bind (·.dst) = some d ∧ lk e.t d = some (.bool b)) ∧ WOp P o e H (fun v H' => v = u ∧ H' = H)) ∨
  ∃ j d b x, o.guard = some (j, b) ∧ (ops[j]?).bind (·.dst) = some d ∧ lk e.t d = some x ∧ notB b x = true ∧ u = .tup []
def ItOK (P : Program) (N : Nat) (ops : Array Oper) (H : HH) (env : Env) (done : List It) (it : It) : Prop :=
  ∃ o, ops[it.i]? = some o ∧ o.dst = some it.d ∧ dstOK o N = true ∧ Wants P ops H o it.u ⟨pen done (fun jt => hasN it.ds jt.i) ++ env.t, env.ds⟩
def AllOK (P : Program) (N : Nat) (ops : Array Oper) (H : HH) (env : Env) : List It → Prop
  | [] => True
  | it :: done => ItOK P N ops H env done it ∧ AllOK P N ops H env done

theorem Wants.lks {o : Oper} {u : VV} {t' : List (Nat × VV)} (hs : ∀ i v, lk t' i = some v → lk env.t i = some v) (h : Wants P ops H o u ⟨t', env.ds⟩) : Wants P ops H o u env := by
  rcases h with ⟨hg, hw⟩ | ⟨j, d, b, x, h1, h2, h3, h4, h5⟩
  · exact .inl ⟨hg.imp id fun ⟨j, d, b, h1, h2, h3⟩ => ⟨j, d, b, h1, h2, hs _ _ h3⟩, hw.lks hs⟩
  · exact .inr ⟨j, d, b, x, h1, h2, hs _ _ h3, h4, h5⟩

theorem AllOK.mem : ∀ {p : List It}, AllOK P N ops H env p → ∀ it ∈ p, ∃ done, (∀ jt ∈ done, jt ∈ p) ∧ ItOK P N ops H env done it
  | x :: p, h, it, hm => by
    rcases List.mem_cons.1 hm with rfl | hm
    · exact ⟨p, fun _ h => List.mem_cons_of_mem _ h, h.1⟩
    · obtain ⟨done, h1, h2⟩ := AllOK.mem h.2 it hm
      exact ⟨done, fun jt hj => List.mem_cons_of_mem _ (h1 jt hj), h2⟩

def setAll (listed : Array Bool) : List It → Array Bool
  | [] => listed
  | it :: p => (setAll listed p).setIfInBounds it.i true

def orderB (ops : Array Oper) (listed : Array Bool) : List It → Bool
  | [] => true
  | it :: p => (Region.ready .any ops (setAll listed p)).contains it.i && p.all (fun jt => !Nat.beq jt.i it.i && !Nat.beq jt.d it.d) && it.ds.all (fun j => waitsB ops j ops.size it.i) && orderB ops listed p
def keepB (ops : Array Oper) (listed : Array Bool) (p : List It) : Bool :=
  (listed.size == ops.size) && closedB ops listed && orderB ops listed p &&
    (List.range ops.size).all fun k => listed.getD k true || p.any (fun it => Nat.beq it.i k) || p.all fun it => waitsB ops it.i ops.size k
def freshB (t : List (Nat × VV)) (p : List It) : Bool := p.all fun it => (lk t it.d).isNone

/-! ### Lookups -/
theorem lk_pen_inv {f : It → Bool} {t : List (Nat × VV)} {k : Nat} {v : VV} : ∀ (p : List It), lk (pen p f ++ t) k = some v → (∃ jt ∈ p, f jt = true ∧ jt.d = k ∧ jt.u = v) ∨ lk t k = some v
  | [], h => .inr h
  | x :: p, h => by
    unfold pen at h
    rw [List.filter_cons] at h
    split at h
    · rename_i hx
      rw [List.map_cons, List.cons_append, lk_cons] at h
      split at h
      · rename_i e; exact .inl ⟨x, List.mem_cons_self .., hx, e.symm, Option.some.inj h⟩
      · exact (lk_pen_inv p h).imp (fun ⟨jt, h1, h2⟩ => ⟨jt, List.mem_cons_of_mem _ h1, h2⟩) id
    · exact (lk_pen_inv p h).imp (fun ⟨jt, h1, h2⟩ => ⟨jt, List.mem_cons_of_mem _ h1, h2⟩) id
theorem lk_pen_base {f : It → Bool} {t : List (Nat × VV)} {k : Nat} {v : VV} (h : lk t k = some v) : ∀ (p : List It), (∀ it ∈ p, it.d ≠ k) → lk (pen p f ++ t) k = some v
  | [], _ => h
  | x :: p, hp => by
    have ih := lk_pen_base (f := f) h p fun it hi => hp it (List.mem_cons_of_mem _ hi)
    unfold pen
    rw [List.filter_cons]
    split
    · rw [List.map_cons, List.cons_append, lk_cons, if_neg (fun e => hp x (List.mem_cons_self ..) e.symm)]; exact ih
    · exact ih
theorem lk_pen_get {f : It → Bool} {t : List (Nat × VV)} {jt : It} (hf : f jt = true) : ∀ (p : List It), p.Pairwise (fun a b => b.i ≠ a.i ∧ b.d ≠ a.d) → jt ∈ p → lk (pen p f ++ t) jt.d = some jt.u
  | x :: p, hp, hm => by
    have hp := List.pairwise_cons.1 hp
    unfold pen
    rw [List.filter_cons]
    rcases List.mem_cons.1 hm with rfl | hm
    · rw [if_pos hf, List.map_cons, List.cons_append, lk_cons, if_pos rfl]
    · have ih := lk_pen_get (t := t) hf p hp.2 hm
      split
      · rw [List.map_cons, List.cons_append, lk_cons, if_neg (hp.1 jt hm).2]; exact ih
      · exact ih

theorem setAll_size {listed : Array Bool} : ∀ (p : List It), (setAll listed p).size = listed.size
  | [] => rfl
  | _ :: p => by simp [setAll, setAll_size p]
theorem setAll_mono {listed : Array Bool} {k : Nat} (h : listed.getD k false = true) : ∀ (p : List It), (setAll listed p).getD k false = true
  | [] => h
  | _ :: p => getD_set_true (setAll_mono h p)
theorem getD_set_self {listed : Array Bool} {i : Nat} (h : i < listed.size) (d : Bool) : (listed.setIfInBounds i true).getD i d = true := by simp [h]
theorem setAll_mem {listed : Array Bool} {it : It} : ∀ (p : List It), it ∈ p → it.i < listed.size → (setAll listed p).getD it.i false = true
  | x :: p, hm, hs => by
    rcases List.mem_cons.1 hm with rfl | hm
    · exact getD_set_self (by rw [setAll_size]; exact hs) false
    · exact getD_set_true (setAll_mem p hm hs)
theorem setAll_inv {listed : Array Bool} {k : Nat} : ∀ (p : List It), (setAll listed p).getD k false = true → listed.getD k false = true ∨ ∃ it ∈ p, it.i = k
  | [], h => .inl h
  | x :: p, h => by
    by_cases e : x.i = k
    · exact .inr ⟨x, List.mem_cons_self .., e⟩
    · unfold setAll at h
      rw [getD_set_ne false e] at h
      exact (setAll_inv p h).imp id fun ⟨it, h1, h2⟩ => ⟨it, List.mem_cons_of_mem _ h1, h2⟩

theorem orderB_pair {listed : Array Bool} : ∀ {p : List It}, orderB ops listed p = true → p.Pairwise (fun a b => b.i ≠ a.i ∧ b.d ≠ a.d)
  | [], _ => .nil
  | it :: p, h => by
    simp only [orderB, Bool.and_eq_true] at h
    refine List.pairwise_cons.2 ⟨fun jt hj => ?_, orderB_pair h.2⟩
    have := List.all_eq_true.1 h.1.1.2 jt hj
    exact ⟨fun e => by rw [e, Nat.beq_refl] at this; simp at this, fun e => by rw [e, Nat.beq_refl] at this; simp at this⟩
theorem orderB_ds {listed : Array Bool} : ∀ {p : List It}, orderB ops listed p = true → ∀ it ∈ p, ∀ j ∈ it.ds, Waits ops it.i j
  | x :: p, h, it, hm, j, hj => by
    simp only [orderB, Bool.and_eq_true] at h
    rcases List.mem_cons.1 hm with rfl | hm
    · exact waitsB_spec _ _ (List.all_eq_true.1 h.1.2 j hj)
    · exact orderB_ds h.2 it hm j hj
theorem orderB_un {listed : Array Bool} : ∀ {p : List It}, orderB ops listed p = true → ∀ it ∈ p, listed.getD it.i true = false
  | x :: p, h, it, hm => by
    simp only [orderB, Bool.and_eq_true] at h
    rcases List.mem_cons.1 hm with rfl | hm
    · have h1 := (mem_ready.1 (show it.i ∈ Region.ready .any ops (setAll listed p) by simpa using h.1.1.1)).1
      have hlt : it.i < (setAll listed p).size := by
        rcases Nat.lt_or_ge it.i (setAll listed p).size with h' | h'
        · exact h'
        · simp [Array.getElem?_eq_none h'] at h1
      cases hh : listed.getD it.i true with
      | false => rfl
      | true =>
        have : listed.getD it.i false = true := by
          rw [setAll_size] at hlt
          simp [hlt] at hh ⊢; exact hh
        have := setAll_mono this p
        simp [hlt] at this h1
        rw [this] at h1; cases h1
    · exact orderB_un h.2 it hm
/-- The first of those that have not come up. -/
theorem orderB_first {listed l' : Array Bool} (hsub : ∀ k, listed.getD k false = true → l'.getD k false = true) : ∀ {p : List It}, (∀ it ∈ p, it.i < l'.size) → orderB ops listed p = true → (∃ it ∈ p, l'.getD it.i true = false) → Region.ready .any ops l' ≠ []
  | x :: p, hin, h, ⟨it, hm, hu⟩ => by
    simp only [orderB, Bool.and_eq_true] at h
    have hin' := fun jt hj => hin jt (List.mem_cons_of_mem x hj)
    by_cases hp : ∃ it ∈ p, l'.getD it.i true = false
    · exact orderB_first hsub hin' h.2 hp
    · have hx : it = x := by
        rcases List.mem_cons.1 hm with e | hm
        · exact e
        · exact absurd ⟨it, hm, hu⟩ hp
      subst hx
      obtain ⟨_, o, ho, hall⟩ := mem_ready.1 (show it.i ∈ Region.ready .any ops (setAll listed p) by simpa using h.1.1.1)
      have : it.i ∈ Region.ready .any ops l' := mem_ready.2 ⟨hu, o, ho, fun e he hb => by
        rcases setAll_inv p (hall e he hb) with h1 | ⟨jt, h1, h2⟩
        · exact hsub _ h1
        · cases hh : l'.getD jt.i true with
          | false => exact absurd ⟨jt, h1, hh⟩ hp
          | true =>
            have hl := hin' jt h1
            rw [← h2]; simp [hl] at hh ⊢; exact hh⟩
      intro e
      rw [e] at this
      cases this

/-- In whatever order they come up, each yields its value. -/
theorem VA.keep {listed : Array Bool} (p : List It) (g : Nat) (hall : AllOK P N ops H env p) (hc : keepB ops listed p = true) (hf : freshB env.t p = true)
    (hn : VA P N ops K g (setAll listed p) ⟨pen p (fun _ => true) ++ env.t, env.ds⟩ H) : VA P N ops K (p.length + g) listed env H := by
  simp only [keepB, Bool.and_eq_true, beq_iff_eq] at hc
  obtain ⟨⟨⟨hsz, hcl⟩, hor⟩, hout⟩ := hc
  have hcl := closedB_spec hcl
  have hpw := orderB_pair hor
  have hdist : ∀ a ∈ p, ∀ b ∈ p, a.i = b.i → a.d = b.d ∧ a.u = b.u := by
    have : ∀ (q : List It), q.Pairwise (fun a b => b.i ≠ a.i ∧ b.d ≠ a.d) → ∀ a ∈ q, ∀ b ∈ q, a.i = b.i → a = b := by
      intro q
      induction q with
      | nil => intro _ a ha; cases ha
      | cons x q ih =>
        intro hq a ha b hb e
        have hq := List.pairwise_cons.1 hq
        rcases List.mem_cons.1 ha with ea | ha' <;> rcases List.mem_cons.1 hb with eb | hb'
        · rw [ea, eb]
        · exact absurd (by rw [← e, ea]) (hq.1 b hb').1
        · exact absurd (by rw [e, eb]) (hq.1 a ha').1
        · exact ih hq.2 a ha' b hb' e
    intro a ha b hb e
    rw [this p hpw a ha b hb e]
    exact ⟨rfl, rfl⟩
  have hdd : ∀ a ∈ p, ∀ b ∈ p, a.d = b.d → a.i = b.i := by
    have : ∀ (q : List It), q.Pairwise (fun a b => b.i ≠ a.i ∧ b.d ≠ a.d) → ∀ a ∈ q, ∀ b ∈ q, a.d = b.d → a.i = b.i := by
      intro q
      induction q with
      | nil => intro _ a ha; cases ha
      | cons x q ih =>
        intro hq a ha b hb e
        have hq := List.pairwise_cons.1 hq
        rcases List.mem_cons.1 ha with ea | ha' <;> rcases List.mem_cons.1 hb with eb | hb'
        · rw [ea, eb]
        · exact absurd (by rw [← e, ea]) (hq.1 b hb').2
        · exact absurd (by rw [e, eb]) (hq.1 a ha').2
        · exact ih hq.2 a ha' b hb' e
    exact this p hpw
  have hfr : ∀ {k v}, lk env.t k = some v → ∀ it ∈ p, it.d ≠ k := fun h it hi e => by
    have := List.all_eq_true.1 hf it hi
    rw [e, h] at this
    cases this
  have hin : ∀ it ∈ p, it.i < ops.size := fun it hi => by
    obtain ⟨_, _, o, ho, _⟩ := hall.mem it hi
    exact (Array.getElem?_eq_some_iff.1 ho).1
  have aux : ∀ (m : Nat) (l' : Array Bool), l'.size = ops.size → Closed ops l' → (∀ k, listed.getD k false = true → l'.getD k false = true) → (∀ k, l'.getD k false = true → listed.getD k false = true ∨ ∃ it ∈ p, it.i = k) →
      (p.filter fun it => !l'.getD it.i false).length = m → VA P N ops K (m + g) l' ⟨pen p (fun it => l'.getD it.i false) ++ env.t, env.ds⟩ H := by
    intro m
    induction m with
    | zero =>
      intro l' h1 h2 h3 h4 h5
      have hall' : ∀ it ∈ p, l'.getD it.i false = true := fun it hi => by
        have := List.filter_eq_nil_iff.1 (List.length_eq_zero_iff.1 h5) it hi
        simpa using this
      have e1 : l' = setAll listed p := by
        refine Array.ext (by rw [setAll_size, h1, hsz]) fun k hk hk' => ?_
        have a1 : l'.getD k false = l'[k] := by simp [hk]
        have a2 : (setAll listed p).getD k false = (setAll listed p)[k] := by simp [hk']
        rw [← a1, ← a2]
        cases hx : l'.getD k false with
        | true =>
          rcases h4 k hx with h | ⟨it, h, e⟩
          · exact (setAll_mono h p).symm
          · rw [← e]; exact (setAll_mem p h (by rw [hsz]; exact hin it h)).symm
        | false =>
          cases hy : (setAll listed p).getD k false with
          | false => rfl
          | true =>
            rcases setAll_inv p hy with h | ⟨it, h, e⟩
            · rw [h3 k h] at hx; cases hx
            · rw [← e, hall' it h] at hx; cases hx
      have e2 : pen p (fun it => l'.getD it.i false) = pen p (fun _ => true) := by
        unfold pen
        rw [List.filter_eq_self.2 (fun it hi => hall' it hi), List.filter_eq_self.2 (fun _ _ => rfl)]
      rw [e2, e1, Nat.zero_add]
      exact hn
    | succ m ih =>
      intro l' h1 h2 h3 h4 h5
      have hun : ∃ it ∈ p, l'.getD it.i true = false := by
        have : 0 < (p.filter fun it => !l'.getD it.i false).length := by omega
        obtain ⟨it, hi⟩ := List.exists_mem_of_length_pos this
        obtain ⟨h6, h7⟩ := List.mem_filter.1 hi
        refine ⟨it, h6, ?_⟩
        have hl := hin it h6
        rw [← h1] at hl
        simp [hl] at h7 ⊢
        exact h7
      rw [show m + 1 + g = (m + g) + 1 by omega]
      intro C S w a r s k
      refine wpAny_all rfl (orderB_first h3 (fun it hi => by rw [h1]; exact hin it hi) hor hun) fun i hi => ?_
      refine (?_ : VA1 P N ops K (m + g) l' i ⟨pen p (fun it => l'.getD it.i false) ++ env.t, env.ds⟩ H) C S w a r s k
      have hiu := (mem_ready.1 hi).1
      have hil : i < ops.size := (Array.getElem?_eq_some_iff.1 (mem_ready.1 hi).2.choose_spec.1).1
      have hp : ∃ it ∈ p, it.i = i := by
        refine Classical.byContradiction fun hnp => ?_
        have := List.all_eq_true.1 hout i (List.mem_range.2 hil)
        simp only [Bool.or_eq_true, List.any_eq_true, List.all_eq_true] at this
        rcases this with (h | ⟨it, h, e⟩) | h
        · have h' : listed.getD i false = true := by
            have : i < listed.size := by rw [hsz]; exact hil
            simp [this] at h ⊢; exact h
          have := h3 i h'
          have hl : i < l'.size := by rw [h1]; exact hil
          simp [hl] at this hiu
          rw [this] at hiu; cases hiu
        · exact hnp ⟨it, h, Nat.eq_of_beq_eq_true e⟩
        · obtain ⟨it, h6, h7⟩ := hun
          have hw := ready_waits h2 hi (waitsB_spec _ _ (h it h6))
          have hl : it.i < l'.size := by rw [h1]; exact hin it h6
          simp [hl] at hw h7
          rw [hw] at h7; cases h7
      obtain ⟨it, hit, rfl⟩ := hp
      obtain ⟨done, hdone, o, ho, hdst, hdN, hw⟩ := hall.mem it hit
      have hw : Wants P ops H o it.u ⟨pen p (fun it => l'.getD it.i false) ++ env.t, env.ds⟩ := by
        refine Wants.lks (t' := pen done (fun jt => hasN it.ds jt.i) ++ env.t) (fun k v hk => ?_) hw
        rcases lk_pen_inv done hk with ⟨jt, h6, h7, h8, h9⟩ | hk
        · have hmem : jt.i ∈ it.ds := by
            have : ∀ (l : List Nat) n, hasN l n = true → n ∈ l := by
              intro l n
              induction l with
              | nil => intro h; cases h
              | cons x l ih =>
                intro h
                simp only [hasN, Bool.or_eq_true] at h
                rcases h with h | h
                · rw [Nat.eq_of_beq_eq_true h]; exact List.mem_cons_self ..
                · exact List.mem_cons_of_mem _ (ih h)
            exact this _ _ h7
          have hwt := ready_waits h2 hi (orderB_ds hor it hit _ hmem)
          have := lk_pen_get (t := env.t) (f := fun it => l'.getD it.i false) (jt := jt) hwt p hpw (hdone jt h6)
          rw [h8, h9] at this
          exact this
        · exact lk_pen_base hk p (hfr hk)
      have next : VA P N ops K (m + g) (l'.setIfInBounds it.i true) ((⟨pen p (fun it => l'.getD it.i false) ++ env.t, env.ds⟩ : Env).put o.dst it.u) H := by
        have hl : it.i < l'.size := by rw [h1]; exact hin it hit
        refine VA.lks (t' := pen p (fun jt => (l'.setIfInBounds it.i true).getD jt.i false) ++ env.t) (fun k v hk => ?_) ?_
        · rw [hdst]
          show lk ((it.d, it.u) :: (pen p (fun it => l'.getD it.i false) ++ env.t)) k = some v
          rw [lk_cons]
          rcases lk_pen_inv p hk with ⟨jt, h6, h7, h8, h9⟩ | hk
          · by_cases e : it.i = jt.i
            · obtain ⟨e1, e2⟩ := hdist it hit jt h6 e
              rw [if_pos (by rw [e1, h8]), e2, h9]
            · rw [getD_set_ne false e] at h7
              rw [if_neg (fun e2 => e (hdd it hit jt h6 (by rw [← e2, h8]))), ← h8, ← h9]
              exact lk_pen_get (f := fun it => l'.getD it.i false) h7 p hpw h6
          · rw [if_neg (fun e => hfr hk it hit e.symm)]
            exact lk_pen_base hk p (hfr hk)
        · rw [hdst]
          refine ih _ (by simpa using h1) (h2.set hi) (fun k hk => getD_set_true (h3 k hk)) (fun k hk => ?_) ?_
          · by_cases e : it.i = k
            · exact .inr ⟨it, hit, e⟩
            · rw [getD_set_ne false e] at hk; exact h4 k hk
          · have hcount : ∀ (q : List It), q.Pairwise (fun a b => b.i ≠ a.i ∧ b.d ≠ a.d) → it ∈ q → (q.filter fun jt => !l'.getD jt.i false).length = (q.filter fun jt => !(l'.setIfInBounds it.i true).getD jt.i false).length + 1 := by
              intro q
              induction q with
              | nil => intro _ h; cases h
              | cons x q ihq =>
                intro hq hm
                have hq := List.pairwise_cons.1 hq
                have hf0 : l'.getD it.i false = false := unlisted_of_ready hi
                by_cases ex : it.i = x.i
                · have hne : ∀ y ∈ q, it.i ≠ y.i := fun y hy e => (hq.1 y hy).1 (by rw [← e, ex])
                  have e1 : q.filter (fun jt => !(l'.setIfInBounds it.i true).getD jt.i false) = q.filter (fun jt => !l'.getD jt.i false) :=
                    List.filter_congr fun y hy => by rw [getD_set_ne false (hne y hy)]
                  rw [List.filter_cons, if_pos (by rw [← ex, hf0]; rfl), List.filter_cons, if_neg (by rw [← ex, getD_set_self hl]; simp), e1]
                  rfl
                · have hm' : it ∈ q := (List.mem_cons.1 hm).resolve_left fun e => ex (by rw [e])
                  have := ihq hq.2 hm'
                  rw [List.filter_cons, List.filter_cons, getD_set_ne false ex]
                  split
                  · simp only [List.length_cons, this]
                  · exact this
            have := hcount p hpw hit
            omega
      rcases hw with ⟨hg, hw⟩ | ⟨j, d, b, x, g1, g2, g3, g4, g5⟩
      · exact VA1.w _ ho hw hg hdN fun v H' ⟨e1, e2⟩ => by subst e1; subst e2; exact next
      · exact VA1.skip ho g1 g2 g3 g4 hdN (by rw [← g5]; exact next)
  have e0 : pen p (fun it => listed.getD it.i false) = [] := by
    unfold pen
    rw [List.filter_eq_nil_iff.2 fun it hi => ?_]
    · rfl
    · have hl : it.i < listed.size := by rw [hsz]; exact hin it hi
      have := orderB_un hor it hi
      simp [hl] at this ⊢
      exact this
  have e1 : (p.filter fun it => !listed.getD it.i false).length = p.length := by
    rw [List.filter_eq_self.2 fun it hi => ?_]
    have hl : it.i < listed.size := by rw [hsz]; exact hin it hi
    have := orderB_un hor it hi
    simp [hl] at this ⊢
    exact this
  have := aux p.length listed hsz hcl (fun _ h => h) (fun _ h => .inl h) e1
  rw [e0] at this
  exact this

/-! ### One after the other -/
/-- What 'done' promises is enough. -/
def VK (P : Program) (N : Nat) (ops : Array Oper) (K : Env → HH → Prop) (fuel : Nat) (listed : Array Bool) (done : List It) (t : List (Nat × VV)) (env : Env) (H : HH) : Prop :=
  pen done (fun _ => true) ++ env.t = t → AllOK P N ops H env done → VA P N ops K fuel listed env H
variable {fuel : Nat} {listed : Array Bool} {dn : List It} {te : List (Nat × VV)}
theorem VA.keeps (h : VK P N ops K fuel listed [] env.t env H) : VA P N ops K fuel listed env H := h rfl trivial
theorem VK.w (i d : Nat) (ds : List Nat) {o : Oper} {u : VV} (hi : ops[i]? = some o) (hd : (o.dst, dstOK o N) = (some d, true))
    (hw : WOp P o ⟨pen dn (fun jt => hasN ds jt.i) ++ env.t, env.ds⟩ H (fun v H' => v = u ∧ H' = H))
    (hg : (o.guard = none) ∨ ∃ j d b, o.guard = some (j, b) ∧ (ops[j]?).bind (·.dst) = some d ∧ lk (pen dn (fun jt => hasN ds jt.i) ++ env.t) d = some (.bool b))
    (hn : VK P N ops K fuel listed (⟨i, d, u, ds⟩ :: dn) ((d, u) :: te) env H) : VK P N ops K fuel listed dn te env H :=
  fun e h => hn (by rw [← e]; rfl) ⟨⟨o, hi, congrArg Prod.fst hd, congrArg Prod.snd hd, .inl ⟨hg, hw⟩⟩, h⟩
theorem VK.r (i d : Nat) (ds : List Nat) {o : Oper} {v : VV} (hi : ops[i]? = some o) (hd : (o.dst, dstOK o N) = (some d, true))
    (hw : ROp P o ⟨pen dn (fun jt => hasN ds jt.i) ++ env.t, env.ds⟩ H v)
    (hg : (o.guard = none) ∨ ∃ j d b, o.guard = some (j, b) ∧ (ops[j]?).bind (·.dst) = some d ∧ lk (pen dn (fun jt => hasN ds jt.i) ++ env.t) d = some (.bool b))
    (hn : VK P N ops K fuel listed (⟨i, d, v, ds⟩ :: dn) ((d, v) :: te) env H) : VK P N ops K fuel listed dn te env H :=
  VK.w i d ds hi hd (hw.w ⟨rfl, rfl⟩) hg hn
theorem VK.t (i d : Nat) (ds : List Nat) {o : Oper} {v : VV} (hi : ops[i]? = some o) (hd : (o.dst, dstOK o N) = (some d, true))
    (hw : TOp P o ⟨pen dn (fun jt => hasN ds jt.i) ++ env.t, env.ds⟩ v)
    (hg : (o.guard = none) ∨ ∃ j d b, o.guard = some (j, b) ∧ (ops[j]?).bind (·.dst) = some d ∧ lk (pen dn (fun jt => hasN ds jt.i) ++ env.t) d = some (.bool b))
    (hn : VK P N ops K fuel listed (⟨i, d, v, ds⟩ :: dn) ((d, v) :: te) env H) : VK P N ops K fuel listed dn te env H :=
  VK.r i d ds hi hd hw.r hg hn
theorem VK.skip (i d : Nat) (ds : List Nat) {o : Oper} {j dj : Nat} {b : Bool} {x : VV} (hi : ops[i]? = some o) (hd : (o.dst, dstOK o N) = (some d, true))
    (hg : o.guard = some (j, b)) (hj : (ops[j]?).bind (·.dst) = some dj) (hb : lk (pen dn (fun jt => hasN ds jt.i) ++ env.t) dj = some x) (hne : notB b x = true)
    (hn : VK P N ops K fuel listed (⟨i, d, .tup [], ds⟩ :: dn) ((d, .tup []) :: te) env H) : VK P N ops K fuel listed dn te env H :=
  fun e h => hn (by rw [← e]; rfl) ⟨⟨o, hi, congrArg Prod.fst hd, congrArg Prod.snd hd, .inr ⟨j, dj, b, x, hg, hj, hb, hne, rfl⟩⟩, h⟩
theorem VK.done (g : Nat) (hf : fuel = dn.length + g) (hc : keepB ops listed dn = true) (hfr : freshB env.t dn = true)
    (hn : VA P N ops K g (setAll listed dn) ⟨te, env.ds⟩ H) : VK P N ops K fuel listed dn te env H :=
  fun e h => by subst hf; exact VA.keep dn g h hc hfr (by rw [e]; exact hn)

/-! ### Calls that leave what is owned as it stands -/
theorem w_keep {f : FuncId} {x : Operand} {xs : List Operand} {ts : Array TypeId} {fi ca vs : List VV} {u : VV} {o : Oper} (ho : o.op = .call ⟨.value x, xs.toArray, ts⟩) (hf : FnOK P f) (hx : EvO env x (.func (.func f) fi ca)) (hv : EvL env xs vs)
    (hc : VCalls P f (fi ++ vs ++ ca) (hq [] []) (fun v H => u = v ∧ H = hq [] [])) : WOp P o env H (fun v H' => v = u ∧ H' = H) := by
  have h := w_call (H := H) (K := fun v H' => v = u ∧ H' = H) ho hf hx hv ((hc.frame H).mono fun v H' ⟨A', e, e1, e2⟩ => by subst e2; exact ⟨e1.symm, e⟩)
  exact h
theorem VO.k {o : Oper} {u : VV} (h : WOp P o env H (fun v H' => v = u ∧ H' = H)) (hg : o.guard = none) (hd : dstOK o N = true) (hn : VO P N ops l K (env.put o.dst u) H) : VO P N ops (o :: l) K env H :=
  VO.w _ h hg hd fun _ _ ⟨e1, e2⟩ => by subst e1; subst e2; exact hn
theorem VO.gk {o : Oper} {u : VV} {j d : Nat} {b : Bool} (h : WOp P o env H (fun v H' => v = u ∧ H' = H)) (hg : o.guard = some (j, b)) (hj : (ops[j]?).bind (·.dst) = some d) (hb : lk env.t d = some (.bool b)) (hd : dstOK o N = true)
    (hn : VO P N ops l K (env.put o.dst u) H) : VO P N ops (o :: l) K env H :=
  VO.gw _ h hg hj hb hd fun _ _ ⟨e1, e2⟩ => by subst e1; subst e2; exact hn
theorem VA.k {i : Nat} {o : Oper} {u : VV} (hi : ops[i]? = some o) (h : WOp P o env H (fun v H' => v = u ∧ H' = H)) (hg : (o.guard = none) ∨ ∃ j d b, o.guard = some (j, b) ∧ (ops[j]?).bind (·.dst) = some d ∧ lk env.t d = some (.bool b))
    (hr : Region.ready .any ops listed = [i]) (hd : dstOK o N = true) (hn : VA P N ops K fuel (listed.setIfInBounds i true) (env.put o.dst u) H) : VA P N ops K (fuel + 1) listed env H :=
  VA.w _ hi h hg hr hd fun _ _ ⟨e1, e2⟩ => by subst e1; subst e2; exact hn
theorem VA1.k {i : Nat} {o : Oper} {u : VV} (hi : ops[i]? = some o) (h : WOp P o env H (fun v H' => v = u ∧ H' = H)) (hg : (o.guard = none) ∨ ∃ j d b, o.guard = some (j, b) ∧ (ops[j]?).bind (·.dst) = some d ∧ lk env.t d = some (.bool b))
    (hd : dstOK o N = true) (hn : VA P N ops K fuel (listed.setIfInBounds i true) (env.put o.dst u) H) : VA1 P N ops K fuel listed i env H :=
  VA1.w _ hi h hg hd fun _ _ ⟨e1, e2⟩ => by subst e1; subst e2; exact hn
/-! ### Short forms -/
@[reducible] def VV.i (n : Int) : VV := .int .i64 n
theorem nle {a b : Nat} (h : Nat.ble a b = true) : a ≤ b := Nat.le_of_ble_eq_true h
theorem oi {α : Type} {a b : α} (h : some a = some b) : a = b := Option.some.inj h
theorem hq_none (H : HH) : HH.Sub (hq [] []) H := by
  have : H = (hq [] []).app H := rfl
  exact ⟨List.nil_sublist _, List.nil_sublist _⟩
theorem ret0 {R : VV → HH → Prop} {ts : List Tmp} {v : VV} (hd : env.ds = []) (hv : resOf env ts v) (hR : R v (hq [] [])) :
    (Exit.ret = .normal ∨ Exit.ret = .ret) ∧ env.ds = [] ∧ ∃ v v' A, resOf env ts v ∧ VLe v v' ∧ HH.Sub A H ∧ R v' A :=
  ⟨.inr rfl, hd, v, v, _, hv, VLe.refl _, hq_none H, hR⟩
theorem VO.n {K1 : Env → HH → Prop} {Q : Exit → Env → HH → Prop} (h : K1 env H) : VO P N ops [] (fun env' H' => thenQ K1 Q .normal env' H') env H := VO.nil h
theorem VW.q {Q : Exit → Env → HH → Prop} {id : Nat} {y : Code} (h : VO P N l.toArray l (fun env' H' => thenQ (VW P N y Q) Q .normal env' H') env H) : VW P N (.seq (.region id l.toArray false) y) Q env H := VW.seq (VW.region h)
theorem VO.m {o : Oper} {v : VV} {x : Operand} (h1 : (o.op, o.guard, dstOK o N) = (.move x, none, true)) (hx : EvO env x v) (hn : VO P N ops l K (env.put o.dst v) H) : VO P N ops (o :: l) K env H :=
  VO.t (t_move (congrArg (·.1) h1) hx) (congrArg (·.2.1) h1) (congrArg (·.2.2) h1) hn
theorem VO.a {o : Oper} {v : VV} {x : Operand} (h1 : (o.op, o.guard, dstOK o N) = (.assign x, none, true)) (hx : EvO env x v) (hn : VO P N ops l K (env.put o.dst v) H) : VO P N ops (o :: l) K env H :=
  VO.t (t_assign (congrArg (·.1) h1) hx) (congrArg (·.2.1) h1) (congrArg (·.2.2) h1) hn
theorem VO.s {o : Oper} {j d : Nat} {b : Bool} {u : VV} (h : (o.guard, (ops[j]?).bind (·.dst), lk env.t d, notB b u, dstOK o N) = (some (j, b), some d, some u, true, true)) (hn : VO P N ops l K (env.put o.dst (.tup [])) H) : VO P N ops (o :: l) K env H :=
  VO.gskip (congrArg (·.1) h) (congrArg (·.2.1) h) (congrArg (·.2.2.1) h) (congrArg (·.2.2.2.1) h) (congrArg (·.2.2.2.2) h) hn
theorem VA.s (i : Nat) {j d : Nat} {b : Bool} {u : VV} {o : Oper} (h : (ops[i]?, o.guard, (ops[j]?).bind (·.dst), lk env.t d, notB b u) = (some o, some (j, b), some d, some u, true))
    (hc : (Region.noSelect ops && Region.free .any ops listed i && (Region.ready .any ops listed).contains i && dstOK o N) = true)
    (hn : VA P N ops K fuel (listed.setIfInBounds i true) (env.put o.dst (.tup [])) H) : VA P N ops K (fuel + 1) listed env H :=
  VA.skip (congrArg (·.1) h) (congrArg (·.2.1) h) (congrArg (·.2.2.1) h) (congrArg (·.2.2.2.1) h) (congrArg (·.2.2.2.2) h) hc hn
theorem VW.k1 {c : Code} {Q : Exit → Env → HH → Prop} (a : Nat) {x : VV} (h : (env.ds, lk env.t a) = ([], some x)) (k : VW P N c Q ⟨[(a, x)], []⟩ H) : VW P N c Q env H :=
  VW.subK (.c a (congrArg (·.2) h) .n) (congrArg (·.1) h) k
theorem VW.k2 {c : Code} {Q : Exit → Env → HH → Prop} (n0 n1 : Nat) {x0 x1 : VV} (h : (env.ds, lk env.t n0, lk env.t n1) = ([], some x0, some x1)) (k : VW P N c Q ⟨[(n0, x0), (n1, x1)], []⟩ H) : VW P N c Q env H :=
  VW.subK (.c n0 (congrArg (·.2.1) h) (.c n1 (congrArg (·.2.2) h) .n)) (congrArg (·.1) h) k
theorem VW.k3 {c : Code} {Q : Exit → Env → HH → Prop} (n0 n1 n2 : Nat) {x0 x1 x2 : VV} (h : (env.ds, lk env.t n0, lk env.t n1, lk env.t n2) = ([], some x0, some x1, some x2)) (k : VW P N c Q ⟨[(n0, x0), (n1, x1), (n2, x2)], []⟩ H) : VW P N c Q env H :=
  VW.subK (.c n0 (congrArg (·.2.1) h) (.c n1 (congrArg (·.2.2.1) h) (.c n2 (congrArg (·.2.2.2) h) .n))) (congrArg (·.1) h) k
theorem VW.k4 {c : Code} {Q : Exit → Env → HH → Prop} (n0 n1 n2 n3 : Nat) {x0 x1 x2 x3 : VV} (h : (env.ds, lk env.t n0, lk env.t n1, lk env.t n2, lk env.t n3) = ([], some x0, some x1, some x2, some x3)) (k : VW P N c Q ⟨[(n0, x0), (n1, x1), (n2, x2), (n3, x3)], []⟩ H) : VW P N c Q env H :=
  VW.subK (.c n0 (congrArg (·.2.1) h) (.c n1 (congrArg (·.2.2.1) h) (.c n2 (congrArg (·.2.2.2.1) h) (.c n3 (congrArg (·.2.2.2.2) h) .n)))) (congrArg (·.1) h) k
theorem VW.k5 {c : Code} {Q : Exit → Env → HH → Prop} (n0 n1 n2 n3 n4 : Nat) {x0 x1 x2 x3 x4 : VV} (h : (env.ds, lk env.t n0, lk env.t n1, lk env.t n2, lk env.t n3, lk env.t n4) = ([], some x0, some x1, some x2, some x3, some x4)) (k : VW P N c Q ⟨[(n0, x0), (n1, x1), (n2, x2), (n3, x3), (n4, x4)], []⟩ H) : VW P N c Q env H :=
  VW.subK (.c n0 (congrArg (·.2.1) h) (.c n1 (congrArg (·.2.2.1) h) (.c n2 (congrArg (·.2.2.2.1) h) (.c n3 (congrArg (·.2.2.2.2.1) h) (.c n4 (congrArg (·.2.2.2.2.2) h) .n))))) (congrArg (·.1) h) k
theorem VW.k6 {c : Code} {Q : Exit → Env → HH → Prop} (n0 n1 n2 n3 n4 n5 : Nat) {x0 x1 x2 x3 x4 x5 : VV} (h : (env.ds, lk env.t n0, lk env.t n1, lk env.t n2, lk env.t n3, lk env.t n4, lk env.t n5) = ([], some x0, some x1, some x2, some x3, some x4, some x5)) (k : VW P N c Q ⟨[(n0, x0), (n1, x1), (n2, x2), (n3, x3), (n4, x4), (n5, x5)], []⟩ H) : VW P N c Q env H :=
  VW.subK (.c n0 (congrArg (·.2.1) h) (.c n1 (congrArg (·.2.2.1) h) (.c n2 (congrArg (·.2.2.2.1) h) (.c n3 (congrArg (·.2.2.2.2.1) h) (.c n4 (congrArg (·.2.2.2.2.2.1) h) (.c n5 (congrArg (·.2.2.2.2.2.2) h) .n)))))) (congrArg (·.1) h) k
theorem VW.k7 {c : Code} {Q : Exit → Env → HH → Prop} (n0 n1 n2 n3 n4 n5 n6 : Nat) {x0 x1 x2 x3 x4 x5 x6 : VV} (h : (env.ds, lk env.t n0, lk env.t n1, lk env.t n2, lk env.t n3, lk env.t n4, lk env.t n5, lk env.t n6) = ([], some x0, some x1, some x2, some x3, some x4, some x5, some x6)) (k : VW P N c Q ⟨[(n0, x0), (n1, x1), (n2, x2), (n3, x3), (n4, x4), (n5, x5), (n6, x6)], []⟩ H) : VW P N c Q env H :=
  VW.subK (.c n0 (congrArg (·.2.1) h) (.c n1 (congrArg (·.2.2.1) h) (.c n2 (congrArg (·.2.2.2.1) h) (.c n3 (congrArg (·.2.2.2.2.1) h) (.c n4 (congrArg (·.2.2.2.2.2.1) h) (.c n5 (congrArg (·.2.2.2.2.2.2.1) h) (.c n6 (congrArg (·.2.2.2.2.2.2.2) h) .n))))))) (congrArg (·.1) h) k
theorem VW.k8 {c : Code} {Q : Exit → Env → HH → Prop} (n0 n1 n2 n3 n4 n5 n6 n7 : Nat) {x0 x1 x2 x3 x4 x5 x6 x7 : VV} (h : (env.ds, lk env.t n0, lk env.t n1, lk env.t n2, lk env.t n3, lk env.t n4, lk env.t n5, lk env.t n6, lk env.t n7) = ([], some x0, some x1, some x2, some x3, some x4, some x5, some x6, some x7)) (k : VW P N c Q ⟨[(n0, x0), (n1, x1), (n2, x2), (n3, x3), (n4, x4), (n5, x5), (n6, x6), (n7, x7)], []⟩ H) : VW P N c Q env H :=
  VW.subK (.c n0 (congrArg (·.2.1) h) (.c n1 (congrArg (·.2.2.1) h) (.c n2 (congrArg (·.2.2.2.1) h) (.c n3 (congrArg (·.2.2.2.2.1) h) (.c n4 (congrArg (·.2.2.2.2.2.1) h) (.c n5 (congrArg (·.2.2.2.2.2.2.1) h) (.c n6 (congrArg (·.2.2.2.2.2.2.2.1) h) (.c n7 (congrArg (·.2.2.2.2.2.2.2.2) h) .n)))))))) (congrArg (·.1) h) k
end Go.AV
