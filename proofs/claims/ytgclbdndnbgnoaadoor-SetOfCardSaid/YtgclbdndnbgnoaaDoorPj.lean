/- SetOf: the texts. -/
import Derived.Test.YtgclbdndnbgnoaaDoorPi
import Derived.Lib.Join
namespace Go.AV
set_option linter.all false

theorem nd_le : ∀ k u : Nat, u < 10 ^ (k + 1) → Lib.nDigits u ≤ k + 1
  | 0, u, h => by rw [Lib.nDigits_small (by simpa using h)]; exact Nat.le_refl _
  | k + 1, u, h => by
    by_cases c : u < 10
    · rw [Lib.nDigits_small c]; omega
    · rw [Lib.nDigits_big c]
      have := nd_le k (u / 10) (by rw [Nat.pow_succ] at h; omega)
      omega
theorem itoa_len (x : Int) (h1 : -1000000000000000 ≤ x) (h2 : x ≤ 1000000000000000) : (Lib.itoa x).length ≤ 20 := by
  unfold Lib.itoa
  split
  · rw [List.length_cons, Lib.decDigits_length]
    have := nd_le 15 x.natAbs (by rw [show (10 : Nat) ^ (15 + 1) = 10000000000000000 by decide]; omega)
    omega
  · rw [Lib.decDigits_length]
    have := nd_le 15 x.toNat (by rw [show (10 : Nat) ^ (15 + 1) = 10000000000000000 by decide]; omega)
    omega
def itB (x : Int) : ByteArray := ⟨(Lib.itoa x).toArray⟩
theorem itoaB (x : Int) (h1 : -1000000000000000 ≤ x) (h2 : x ≤ 1000000000000000) : PL.strconv_Itoa x = some (itB x) ∧ (itB x).size ≤ 20 := by
  refine ⟨by unfold PL.strconv_Itoa; rw [if_pos (by omega)]; rfl, ?_⟩
  have := itoa_len x h1 h2
  show ((Lib.itoa x).toArray).size ≤ 20
  simpa using this

theorem bsize (a b : ByteArray) : (a ++ b).size = a.size + b.size := ByteArray.size_append
def tlB (sep : ByteArray) : ByteArray → List ByteArray → ByteArray
  | s, [] => s
  | s, t :: ts => tlB sep ((s ++ sep) ++ t) ts
theorem tlB_list (sep : ByteArray) : ∀ (ts : List ByteArray) (s : ByteArray), (tlB sep s ts).data.toList = s.data.toList ++ Lib.joinTail sep.data.toList (ts.map (·.data.toList))
  | [], s => by simp [tlB, Lib.joinTail]
  | t :: ts, s => by
    rw [tlB, tlB_list sep ts]
    simp [Lib.joinTail, List.append_assoc, ByteArray.data_append]
theorem byte_ext {a b : ByteArray} (h : a.data.toList = b.data.toList) : a = b := by
  cases a; cases b
  simp only at h
  rw [Array.toList_inj.1 h]
theorem joinB (x : ByteArray) (ts : List ByteArray) (sep : ByteArray) : (⟨(Lib.join ((x :: ts).map (·.data.toList)) sep.data.toList).toArray⟩ : ByteArray) = tlB sep x ts := by
  refine byte_ext ?_
  rw [tlB_list, List.map_cons, Lib.join_cons]

/-- The bytes of a kid. -/
noncomputable def tf (k : Node) : ByteArray := (PL.set_text k).getD ByteArray.empty
def TxtOK (k : Node) : Prop := PL.set_text k = some (tf k) ∧ PL.ref03_text k = some (tf k) ∧ (tf k).size + 10 ≤ 60 * cnt k
theorem TxtOK.of {k : Node} {s : ByteArray} (h1 : PL.set_text k = some s) (h2 : PL.ref03_text k = some s) (h3 : s.size + 10 ≤ 60 * cnt k) : TxtOK k := by
  have : tf k = s := by unfold tf; rw [h1]; rfl
  unfold TxtOK
  rw [this]
  exact ⟨h1, h2, h3⟩

theorem tlB_size (sep : ByteArray) (hs : sep.size ≤ 3) : ∀ (ks : List Node) (s : ByteArray), (∀ k ∈ ks, TxtOK k) → (tlB sep s (ks.map tf)).size + 7 * ks.length ≤ s.size + 60 * cntL ks
  | [], s, _ => by simp [tlB, cntL]
  | k :: ks, s, h => by
    have ih := tlB_size sep hs ks ((s ++ sep) ++ tf k) fun k' hk => h k' (List.mem_cons_of_mem _ hk)
    have h1 := (h k (List.mem_cons_self ..)).2.2
    rw [bsize, bsize] at ih
    rw [List.map_cons, tlB, List.length_cons]
    simp only [cntL]
    omega

theorem stext_l0 (n : Node) (hl : n.Kids.length ≤ 1000) (hk : ∀ k ∈ n.Kids, TxtOK k) : ∀ (m i : Nat) (c : List ByteArray), n.Kids.length - i = m → c.length ≤ i →
    PL.set_text.l0 n c i = some (c ++ (n.Kids.drop i).map tf) := by
  intro m
  induction m with
  | zero =>
    intro i c hm hc
    rw [PL.set_text.l0, if_neg (by simp <;> omega), List.drop_eq_nil_of_le (by omega), List.map_nil, List.append_nil]
  | succ m ih =>
    intro i c hm hc
    have hlt : i < n.Kids.length := by omega
    rw [PL.set_text.l0, if_pos (by simp <;> omega), getI_lit n.Kids i hlt]
    simp only [Option.bind_eq_bind, Option.bind_some, (hk _ (List.getElem_mem hlt)).1, w64_one i (by omega)]
    rw [room_ok (by omega)]
    simp only [Option.bind_some]
    rw [ih (i + 1) _ (by omega) (by simp; omega), drop_get hlt, List.map_cons, List.append_assoc]
    rfl

/-- The operation's sign, as the reference cuts it out. -/
theorem signs (op : Int) (h : op = 1 ∨ op = 2 ∨ op = 3) : (0 : Int) ≤ w64 (op - 1) ∧ w64 (op - 1) ≤ op ∧ op ≤ (k__124_94_45.size : Int) ∧ (k__124_94_45.extract (w64 (op - 1)).toNat op.toNat).size = 1 ∧ (jointB op).size = 3 ∧
    ∀ s : ByteArray, ((s ++ k__32) ++ (k__124_94_45.extract (w64 (op - 1)).toNat op.toNat)) ++ k__32 = s ++ jointB op := by
  have key : ∀ (c : UInt8) (s x j : ByteArray), x.data.toList = [c] → j.data.toList = [32, c, 32] → ((s ++ k__32) ++ x) ++ k__32 = s ++ j := fun c s x j hx hj => by
    refine byte_ext ?_
    simp only [ByteArray.data_append, Array.toList_append, hx, hj]
    simp [k__32]
  rcases h with rfl | rfl | rfl
  · refine ⟨by decide, by decide, by decide, by decide, by decide, fun s => key 124 s _ _ (by decide) (by decide)⟩
  · refine ⟨by decide, by decide, by decide, by decide, by decide, fun s => key 94 s _ _ (by decide) (by decide)⟩
  · refine ⟨by decide, by decide, by decide, by decide, by decide, fun s => key 45 s _ _ (by decide) (by decide)⟩

theorem rtext_l0 (n : Node) (hop : n.Op = 1 ∨ n.Op = 2 ∨ n.Op = 3) (hl : n.Kids.length ≤ 1000) (hk : ∀ k ∈ n.Kids, TxtOK k) : ∀ (m i : Nat) (s : ByteArray), n.Kids.length - i = m → 1 ≤ i → s.size + 60 * cntL (n.Kids.drop i) ≤ 1000000 →
    PL.ref03_text.l0 n s i = some (tlB (jointB n.Op) s ((n.Kids.drop i).map tf)) := by
  obtain ⟨g1, g2, g3, g4, g5, g6⟩ := signs n.Op hop
  have z32 : k__32.size = 1 := rfl
  intro m
  induction m with
  | zero =>
    intro i s hm hi hs
    rw [PL.ref03_text.l0, if_neg (by simp <;> omega), List.drop_eq_nil_of_le (by omega)]
    rfl
  | succ m ih =>
    intro i s hm hi hs
    have hlt : i < n.Kids.length := by omega
    obtain ⟨t1, t2, t3⟩ := hk _ (List.getElem_mem hlt)
    rw [drop_get hlt] at hs
    simp only [cntL] at hs
    rw [PL.ref03_text.l0, if_pos (by simp <;> omega), if_pos (by simp <;> omega), if_pos (by rw [z32]; omega), if_pos g1, if_pos g2, if_pos g3, if_pos (by rw [bsize, z32, g4]; omega), if_pos (by rw [bsize, bsize, z32, g4]; omega), g6, getI_lit n.Kids i hlt]
    simp only [Option.bind_eq_bind, Option.bind_some, t2, w64_one i (by omega)]
    rw [if_pos (by rw [bsize, g5]; omega), ih (i + 1) _ (by omega) (by omega) (by rw [bsize, bsize, g5]; omega), drop_get hlt, List.map_cons, tlB]

theorem empty_app (t : ByteArray) : k_ ++ t = t := byte_ext (by simp [k_, ByteArray.data_append])
theorem text_ok {n : Node} (h : Fm n) (hc : cnt n ≤ 400) : TxtOK n := by
  induction h with
  | mk n h0 hz h12 h3 h4 h5 hop hk ih =>
    have hlen := cntL_ge n.Kids
    have hcn := cnt_eq n
    have ih' : ∀ k ∈ n.Kids, TxtOK k := fun k hkk => ih k hkk (by have := cntL_mem hkk; omega)
    by_cases c0 : n.Op = 0
    · obtain ⟨k0, k1, k2, k3⟩ := h0 c0
      obtain ⟨a1, a2⟩ := itoaB n.Lo (by omega) (by omega)
      obtain ⟨b1, b2⟩ := itoaB n.Hi (by omega) (by omega)
      have z2 : k__46_46.size = 2 := rfl
      by_cases ce : n.Lo = n.Hi
      · refine TxtOK.of (s := itB n.Lo) ?_ ?_ (by omega)
        · rw [PL.set_text, if_pos (by simpa using c0), if_pos (by simpa using ce), a1]; rfl
        · rw [PL.ref03_text, if_pos (by simpa using c0), if_pos (by simpa using ce), a1]; rfl
      · refine TxtOK.of (s := (itB n.Lo ++ k__46_46) ++ itB n.Hi) ?_ ?_ (by rw [bsize, bsize, z2]; omega)
        · rw [PL.set_text, if_pos (by simpa using c0), if_neg (by simpa using ce), a1]
          simp only [Option.bind_eq_bind, Option.bind_some]
          rw [if_pos (by rw [z2]; omega), b1]
          simp only [Option.bind_some]
          rw [if_pos (by rw [bsize, z2]; omega)]
        · rw [PL.ref03_text, if_pos (by simpa using c0), if_neg (by simpa using ce), a1]
          simp only [Option.bind_eq_bind, Option.bind_some]
          rw [if_pos (by rw [z2]; omega), b1]
          simp only [Option.bind_some]
          rw [if_pos (by rw [bsize, z2]; omega)]
    · by_cases c4 : n.Op = 4
      · refine TxtOK.of (s := k_ALL) ?_ ?_ (by rw [show k_ALL.size = 3 from rfl]; omega)
        · rw [PL.set_text, if_neg (by simpa using c0), if_pos (by simpa using c4)]
        · rw [PL.ref03_text, if_neg (by simpa using c0), if_pos (by simpa using c4)]
      · by_cases c5 : n.Op = 5
        · obtain ⟨k, hkk⟩ := one_kid (h5 c5)
          obtain ⟨t1, t2, t3⟩ := ih' k (by rw [hkk]; exact List.mem_singleton.2 rfl)
          have hck : cntL n.Kids = cnt k := by rw [hkk]; simp [cntL]
          have z1 : k__91.size = 1 := rfl
          have z6 : k__44_32_46_46_46_93.size = 6 := rfl
          refine TxtOK.of (s := (k__91 ++ tf k) ++ k__44_32_46_46_46_93) ?_ ?_ (by rw [bsize, bsize, z1, z6]; omega)
          · rw [PL.set_text, if_neg (by simpa using c0), if_neg (by simpa using c4), if_pos (by simpa using c5), hkk, show getI [k] 0 = some k from rfl]
            simp only [Option.bind_eq_bind, Option.bind_some, t1]
            rw [if_pos (by rw [z1]; omega), if_pos (by rw [bsize, z1, z6]; omega)]
          · rw [PL.ref03_text, if_neg (by simpa using c0), if_neg (by simpa using c4), if_pos (by simpa using c5), hkk, show getI [k] 0 = some k from rfl]
            simp only [Option.bind_eq_bind, Option.bind_some, t2]
            rw [if_pos (by rw [z1]; omega), if_pos (by rw [bsize, z1, z6]; omega)]
        · have hop3 : n.Op = 1 ∨ n.Op = 2 ∨ n.Op = 3 := by omega
          obtain ⟨g1, g2, g3, g4, g5, g6⟩ := signs n.Op hop3
          obtain ⟨k, ks, hkk⟩ : ∃ k ks, n.Kids = k :: ks := by
            cases hh : n.Kids with
            | nil =>
              have : 2 ≤ n.Kids.length := by
                rcases hop3 with e | e | e
                · exact h12 (.inl e)
                · exact h12 (.inr e)
                · rw [h3 e]; decide
              rw [hh] at this
              simp at this
            | cons k ks => exact ⟨k, ks, rfl⟩
          obtain ⟨t1, t2, t3⟩ := ih' k (by rw [hkk]; exact List.mem_cons_self ..)
          have hks : ∀ k' ∈ ks, TxtOK k' := fun k' hh => ih' k' (by rw [hkk]; exact List.mem_cons_of_mem _ hh)
          have hsz := tlB_size (jointB n.Op) (by omega) ks (tf k) hks
          have hck : cntL n.Kids = cnt k + cntL ks := by rw [hkk]; simp [cntL]
          have z1 : k__40.size = 1 := rfl
          have z2 : k__41.size = 1 := rfl
          have sl := stext_l0 n (by omega) ih' _ 0 [] rfl (by simp)
          rw [show ((0 : Nat) : Int) = 0 from rfl] at sl
          have rl : PL.ref03_text.l0 n k_ 0 = some (tlB (jointB n.Op) (tf k) (ks.map tf)) := by
            have h1 := rtext_l0 n hop3 (by omega) ih' _ 1 (tf k) rfl (by omega) (by rw [hkk]; simp only [List.drop_succ_cons, List.drop_zero]; omega)
            rw [PL.ref03_text.l0, if_pos (by rw [hkk]; simp), if_neg (by decide)]
            have e0 : getI n.Kids 0 = some k := by rw [hkk]; rfl
            rw [e0]
            simp only [Option.bind_eq_bind, Option.bind_some, t2]
            rw [if_pos (by rw [show k_.size = 0 from rfl]; omega), empty_app, show w64 (0 + 1) = ((1 : Nat) : Int) by decide, h1, hkk]
            rfl
          refine TxtOK.of (s := (k__40 ++ tlB (jointB n.Op) (tf k) (ks.map tf)) ++ k__41) ?_ ?_ (by rw [bsize, bsize, z1, z2]; omega)
          · rw [PL.set_text, if_neg (by simpa using c0), if_neg (by simpa using c4), if_neg (by simpa using c5), sl]
            simp only [Option.bind_eq_bind, Option.bind_some, PL.set_joint, List.nil_append, List.drop_zero, hkk, List.map_cons]
            have jn : PL.strings_Join (tf k :: ks.map tf) (jointB n.Op) = some (tlB (jointB n.Op) (tf k) (ks.map tf)) := by
              unfold PL.strings_Join
              have e := joinB (tf k) (ks.map tf) (jointB n.Op)
              have hl : (Lib.join ((tf k :: ks.map tf).map (·.data.toList)) (jointB n.Op).data.toList).length = (tlB (jointB n.Op) (tf k) (ks.map tf)).size := by
                rw [← e]; simp [ByteArray.size]
              rw [if_pos ⟨by have := congrArg List.length hkk; simp at this ⊢; omega, by rw [hl]; omega⟩, e]
            rw [jn]
            simp only [Option.bind_some]
            rw [if_pos (by rw [z1]; omega), if_pos (by rw [bsize, z1, z2]; omega)]
          · rw [PL.ref03_text, if_neg (by simpa using c0), if_neg (by simpa using c4), if_neg (by simpa using c5), rl]
            simp only [Option.bind_eq_bind, Option.bind_some]
            rw [if_pos (by rw [z1]; omega), if_pos (by rw [bsize, z1, z2]; omega)]
end Go.AV
