/- The walks: each printed theorem says what a function of the program does. -/
import Derived.Test.YtgclbdndnbgnoaaWk1
namespace Go.AV
open Go.Proofs
set_option maxRecDepth 100000
set_option linter.all false

theorem set_both_ok (a0 : List Pr) (a1 : List Pr) (a2 : List Pr → List Pr → Option (List Pr)) (r : List Pr × Int) (h : PL.set_both a0 a1 a2 = some r) (a2_f : Nat) (a2_a : List VV) (a2_c : List VV) (a2_g : Seg) (a2_k : FnOK Try.prog a2_f) (a2_h : ∀ (y0 : List Pr) (y1 : List Pr) (z : List Pr), a2 y0 y1 = some z → VCalls Try.prog a2_f (a2_a ++ [.sl .fz (y0.map Pr.c), .sl .fz (y1.map Pr.c)] ++ a2_c) (hq [a2_g] []) (fun v H => .sl .fz (z.map Pr.c) = v ∧ H = hq [a2_g] [])) :
    VCalls Try.prog 27 [.sl .fz (a0.map Pr.c), .sl .fz (a1.map Pr.c), .func (.func a2_f) a2_a a2_c] (hq [a2_g] []) (fun v H => .tup [.sl .fz (r.1.map Pr.c), .int .i64 r.2] = v ∧ H = hq [a2_g] []) := by
  unfold PL.set_both at h
  refine VCalls.of_body 23 [6, 7] Try.func27 rfl rfl rfl (Nat.le_of_ble_eq_true rfl) (VW.subK (.c 0 rfl (.c 1 rfl (.c 2 rfl .n))) rfl (VW.seq (VW.region (VO.t (v := .sl .nl []) (t_assign rfl (fun _ _ => .inl ⟨rfl, .inl rfl⟩)) rfl rfl (VO.t (v := .int .i64 0) (t_assign rfl (fun _ _ => rfl)) rfl rfl (VO.nil (thenQ_normal (VW.subK (.c 0 rfl (.c 1 rfl (.c 2 rfl .n))) rfl (VW.seq ?_)))))))))
  refine VW.seq (VW.region (VO.t (t_move rfl rfl) rfl rfl ?_))
  obtain ⟨rv_5249, hx_5250, h⟩ := obind h
  refine VO.w (fun v H' => .bool rv_5249 = v ∧ H' = hq ([a2_g]) []) (w_call_q (sa := []) (sg := [a2_g]) (tks := []) rfl fn18 rfl ⟨_, _, rfl, rfl, rfl⟩ (set_Valid_ok _ _ hx_5250) (by rintro v H' ⟨rfl, rfl⟩; exact ⟨[], rfl, rfl, rfl⟩)) rfl rfl ?_
  rintro _ _ ⟨rfl, rfl⟩
  refine VO.t (v := .bool (!rv_5249)) (t_not rfl rfl rfl) rfl rfl (VO.t (t_move rfl rfl) rfl rfl ?_)
  refine VO.caseB (d := 11) (b := (!rv_5249)) rfl (fun hc_5251 => ?_) (fun hc_5251 => ?_)
  · replace h := iteT h hc_5251
    refine VO.gskip rfl rfl rfl rfl rfl (VO.gskip rfl rfl rfl rfl rfl (VO.gskip rfl rfl rfl rfl rfl (VO.t (v := .bool true) (t_pick (b := true) rfl rfl (fun _ => (fun _ _ => rfl)) (fun h => by cases h)) rfl rfl (VO.nil (thenQ_normal (VW.subK (.c 0 rfl (.c 1 rfl (.c 2 rfl (.c 15 rfl .n)))) rfl (VW.condT rfl (VW.seq (VW.region ?_)))))))))
    refine VO.t (v := .sl .nl []) (t_assign rfl (fun _ _ => .inl ⟨rfl, .inl rfl⟩)) rfl rfl (VO.t (v := .int .i64 1) (t_assign rfl (fun _ _ => rfl)) rfl rfl (VO.nil (thenQ_normal (VW.subK (.c 6 rfl (.c 7 rfl .n)) rfl (VW.ret (thenQ_ret ?_))))))
    have h := Option.some.inj h
    subst h
    exact ⟨.inr rfl, rfl, _, .tup [.sl .fz [], .int .i64 1], hq [a2_g] [], ⟨_, _, rfl, rfl, rfl⟩, VLe.tup ⟨VLe.sl _ _, VLe.refl _, trivial⟩, hq_sub (.cons_cons _ .slnil) .slnil, rfl, rfl⟩
  · replace h := iteF h hc_5251
    refine VO.gt (v := .sl .fz (a1.map Pr.c)) (t_move rfl rfl) rfl rfl rfl rfl ?_
    obtain ⟨rv_5252, hx_5253, h⟩ := obind h
    refine VO.gw (fun v H' => .bool rv_5252 = v ∧ H' = hq ([a2_g]) []) (w_call_q (sa := []) (sg := [a2_g]) (tks := []) rfl fn18 rfl ⟨_, _, rfl, rfl, rfl⟩ (set_Valid_ok _ _ hx_5253) (by rintro v H' ⟨rfl, rfl⟩; exact ⟨[], rfl, rfl, rfl⟩)) rfl rfl rfl rfl ?_
    rintro _ _ ⟨rfl, rfl⟩
    refine VO.gt (v := .bool (!rv_5252)) (t_not rfl rfl rfl) rfl rfl rfl rfl (VO.t (v := .bool (!rv_5252)) (t_pick (b := false) rfl rfl (fun h => by cases h) (fun _ => rfl)) rfl rfl (VO.nil (thenQ_normal (VW.subK (.c 0 rfl (.c 1 rfl (.c 2 rfl (.c 15 rfl .n)))) rfl ?_))))
    refine VW.cond (b := (!rv_5252)) rfl (fun hc_5254 => ?_) (fun hc_5254 => ?_)
    · replace h := iteT h hc_5254
      refine VW.seq (VW.region (VO.t (v := .sl .nl []) (t_assign rfl (fun _ _ => .inl ⟨rfl, .inl rfl⟩)) rfl rfl (VO.t (v := .int .i64 1) (t_assign rfl (fun _ _ => rfl)) rfl rfl (VO.nil (thenQ_normal (VW.subK (.c 6 rfl (.c 7 rfl .n)) rfl (VW.ret (thenQ_ret ?_))))))))
      have h := Option.some.inj h
      subst h
      exact ⟨.inr rfl, rfl, _, .tup [.sl .fz [], .int .i64 1], hq [a2_g] [], ⟨_, _, rfl, rfl, rfl⟩, VLe.tup ⟨VLe.sl _ _, VLe.refl _, trivial⟩, hq_sub (.cons_cons _ .slnil) .slnil, rfl, rfl⟩
    · replace h := iteF h hc_5254
      refine VW.skip (thenQ_normal (VW.subK (.c 0 rfl (.c 1 rfl (.c 2 rfl .n))) rfl (VW.seq (VW.region (VO.t (t_move rfl rfl) rfl rfl (VO.t (t_move rfl rfl) rfl rfl (VO.t (t_move rfl rfl) rfl rfl ?_)))))))
      obtain ⟨rv_5255, hx_5256, h⟩ := obind h
      refine VO.w (fun v H' => .sl .fz (rv_5255.map Pr.c) = v ∧ H' = hq ([a2_g]) []) (w_call_q (sa := [a2_g]) (sg := []) (tks := []) rfl a2_k rfl ⟨_, _, rfl, rfl, _, _, rfl, rfl, rfl⟩ (a2_h _ _ _ hx_5256) (by rintro v H' ⟨rfl, rfl⟩; exact ⟨[a2_g], rfl, rfl, rfl⟩)) rfl rfl ?_
      rintro _ _ ⟨rfl, rfl⟩
      obtain ⟨⟨rv_5257, rv_5258⟩, hx_5259, h⟩ := obind h
      try dsimp only at h
      refine VO.w (fun v H' => .tup [.sl .fz (rv_5257.map Pr.c), .int .i64 rv_5258] = v ∧ H' = hq ([a2_g]) []) (w_call_q (sa := []) (sg := [a2_g]) (tks := []) rfl fn39 rfl ⟨_, _, rfl, rfl, rfl⟩ (set_limited_ok _ _ hx_5259) (by rintro v H' ⟨rfl, rfl⟩; exact ⟨[], rfl, rfl, rfl⟩)) rfl rfl ?_
      rintro _ _ ⟨rfl, rfl⟩
      refine VO.t (v := .sl .fz (rv_5257.map Pr.c)) (t_extract rfl rfl rfl) rfl rfl (VO.t (v := .int .i64 rv_5258) (t_extract rfl rfl rfl) rfl rfl (VO.t (v := .sl .fz (rv_5257.map Pr.c)) (t_assign rfl rfl) rfl rfl (VO.t (v := .int .i64 rv_5258) (t_assign rfl rfl) rfl rfl (VO.nil (thenQ_normal (VW.subK (.c 6 rfl (.c 7 rfl .n)) rfl (VW.ret ?_)))))))
      have h := Option.some.inj h
      subst h
      exact ⟨.inr rfl, rfl, _, .tup [.sl .fz (rv_5257.map Pr.c), .int .i64 rv_5258], hq [a2_g] [], ⟨_, _, rfl, rfl, rfl⟩, VLe.tup ⟨VLe.refl _, VLe.refl _, trivial⟩, hq_sub (.cons_cons _ .slnil) .slnil, rfl, rfl⟩

theorem set_Union_1_ok (a0 : List Pr) (a1 : List Pr) (r : List Pr) (h : PL.set_Union_1 a0 a1 = some r) :
    VCalls Try.prog 28 [.sl .fz (a0.map Pr.c), .sl .fz (a1.map Pr.c)] (hq [] []) (fun v H => .sl .fz (r.map Pr.c) = v ∧ H = hq [] []) := by
  unfold PL.set_Union_1 at h
  refine VCalls.of_body 10 [4] Try.func28 rfl rfl rfl (Nat.le_of_ble_eq_true rfl) (VW.subK (.c 0 rfl (.c 1 rfl .n)) rfl (VW.seq (VW.region (VO.t (v := .sl .nl []) (t_assign rfl (fun _ _ => .inl ⟨rfl, .inl rfl⟩)) rfl rfl (VO.nil (thenQ_normal (VW.subK (.c 0 rfl (.c 1 rfl .n)) rfl (VW.seq (VW.region ?_)))))))))
  refine VO.t (t_move rfl rfl) rfl rfl (VO.t (t_move rfl rfl) rfl rfl (VO.w (fun v H' => ∃ t_5260, .sl (.cap t_5260 1) (([a0, a1]).map (cSl Pr.c)) = v ∧ H' = hq [] ([.cap t_5260 1])) (w_buildSlice (l := [[.sl .fz (a0.map Pr.c)], [.sl .fz (a1.map Pr.c)]]) rfl el66 ⟨rfl, _, _, rfl, rfl, rfl, rfl, rfl, _, _, rfl, rfl, rfl, rfl, rfl⟩ rfl (Nat.le_of_ble_eq_true rfl) (fun tk => ⟨tk, by simp only [List.map_cons, List.map_nil, cInt, cBool, cStr, cSl], rfl⟩)) rfl rfl ?_))
  rintro _ _ ⟨t_5260, rfl, rfl⟩
  refine VO.weak (d := 7) (v' := .sl .fz (([a0, a1]).map (cSl Pr.c))) rfl (VLe.sl _ _) ?_
  obtain ⟨rv_5261, hx_5262, h⟩ := obind h
  refine VO.w (fun v H' => ∃ vr0_5263 br0_5264, Buf 2 (rv_5261.map Pr.c) vr0_5263 br0_5264 ∧ vr0_5263 = v ∧ H' = hq ([br0_5264]) ([.cap t_5260 1])) (w_call_q (sa := []) (sg := []) (tks := [.cap t_5260 1]) rfl fn30 rfl ⟨_, _, rfl, rfl, rfl⟩ (slices_Concat_2int2int_ok _ _ hx_5262) (by rintro v H' ⟨vr0_5263, br0_5264, h_0, rfl, rfl⟩; exact ⟨[br0_5264], rfl, vr0_5263, br0_5264, h_0, rfl, rfl⟩)) rfl rfl ?_
  rintro _ _ ⟨vr0_5263, br0_5264, hB_5266, rfl, rfl⟩
  obtain ⟨⟨rv_5267, k_5268⟩, hx_5269, h⟩ := obind h
  try dsimp only at h
  refine VO.w (fun v H' => ∃ bk0_5270, Buf 2 (k_5268.map Pr.c) vr0_5263 bk0_5270 ∧ .sl .fz (rv_5267.map Pr.c) = v ∧ H' = hq ([bk0_5270]) ([.cap t_5260 1])) (w_call_q (sa := [br0_5264]) (sg := []) (tks := [.cap t_5260 1]) rfl fn29 rfl ⟨_, _, rfl, rfl, rfl⟩ (set_tidy_ok _ _ hx_5269 vr0_5263 br0_5264 hB_5266) (by rintro v H' ⟨bk0_5270, h_0, rfl, rfl⟩; exact ⟨[bk0_5270], rfl, bk0_5270, h_0, rfl, rfl⟩)) rfl rfl ?_
  rintro _ _ ⟨bk0_5270, hB_5271, rfl, rfl⟩
  refine VO.t (v := .sl .fz (rv_5267.map Pr.c)) (t_assign rfl rfl) rfl rfl (VO.nil (thenQ_normal (VW.subK (.c 4 rfl .n) rfl (VW.hsub (A := hq [] []) (hq_sub (.cons _ .slnil) (.cons _ .slnil)) (VW.ret ?_)))))
  have h := Option.some.inj h
  subst h
  exact ⟨.inr rfl, rfl, _, .sl .fz (rv_5267.map Pr.c), hq [] [], rfl, VLe.refl _, hq_sub .slnil .slnil, rfl, rfl⟩

theorem set_Union_ok (a0 : List Pr) (a1 : List Pr) (r : List Pr × Int) (h : PL.set_Union a0 a1 = some r) :
    VCalls Try.prog 7 [.sl .fz (a0.map Pr.c), .sl .fz (a1.map Pr.c)] (hq [] []) (fun v H => .tup [.sl .fz (r.1.map Pr.c), .int .i64 r.2] = v ∧ H = hq [] []) := by
  unfold PL.set_Union at h
  refine VCalls.of_body 11 [4, 5] Try.func7 rfl rfl rfl (Nat.le_of_ble_eq_true rfl) (VW.subK (.c 0 rfl (.c 1 rfl .n)) rfl (VW.seq (VW.region (VO.t (v := .sl .nl []) (t_assign rfl (fun _ _ => .inl ⟨rfl, .inl rfl⟩)) rfl rfl (VO.t (v := .int .i64 0) (t_assign rfl (fun _ _ => rfl)) rfl rfl (VO.nil (thenQ_normal (VW.subK (.c 0 rfl (.c 1 rfl .n)) rfl (VW.seq ?_)))))))))
  refine VW.region (VO.t (t_move rfl rfl) rfl rfl (VO.t (t_move rfl rfl) rfl rfl ?_))
  obtain ⟨⟨rv_5272, rv_5273⟩, hx_5274, h⟩ := obind h
  try dsimp only at h
  refine VO.w (fun v H' => .tup [.sl .fz (rv_5272.map Pr.c), .int .i64 rv_5273] = v ∧ H' = hq [] []) (w_call_q (sa := [[]]) (sg := []) (tks := []) rfl fn27 rfl ⟨_, _, rfl, rfl, _, _, rfl, rfl, _, _, rfl, rfl, rfl⟩ (set_both_ok _ _ _ _ hx_5274 28 [] [] [] fn28 (fun y0 y1 z h => set_Union_1_ok y0 y1 z h)) (by rintro v H' ⟨rfl, rfl⟩; exact ⟨[[]], rfl, rfl, rfl⟩)) rfl rfl ?_
  rintro _ _ ⟨rfl, rfl⟩
  refine VO.t (v := .sl .fz (rv_5272.map Pr.c)) (t_extract rfl rfl rfl) rfl rfl (VO.t (v := .int .i64 rv_5273) (t_extract rfl rfl rfl) rfl rfl (VO.t (v := .sl .fz (rv_5272.map Pr.c)) (t_assign rfl rfl) rfl rfl (VO.t (v := .int .i64 rv_5273) (t_assign rfl rfl) rfl rfl (VO.nil (thenQ_normal (VW.subK (.c 4 rfl (.c 5 rfl .n)) rfl (VW.ret ?_)))))))
  have h := Option.some.inj h
  subst h
  exact ⟨.inr rfl, rfl, _, .tup [.sl .fz (rv_5272.map Pr.c), .int .i64 rv_5273], hq [] [], ⟨_, _, rfl, rfl, rfl⟩, VLe.tup ⟨VLe.refl _, VLe.refl _, trivial⟩, hq_sub .slnil .slnil, rfl, rfl⟩

theorem ref03_Valid.l0_ok (a0 : List Pr) {Q : Exit → Env → HH → Prop} :
    ∀ (i_5305 : Int) (o : Unit ⊕ Unit), PL.ref03_Valid.l0 a0 i_5305 = some o →
    ∀ (hx0 : Sum.inl () = o → Q (.exit 0) ⟨[], []⟩ (hq [] [])) (hx1 : Sum.inr () = o → Q .ret ⟨[(2, .bool false)], []⟩ (hq [] [])), VW Try.prog 59 (codeAt [1, 1, 0, 1, 0, 0] (bodyOf Try.f19)) (thenQ (VL Try.prog 59 (codeAt [1, 1, 0, 1, 0, 0] (bodyOf Try.f19)) Q) Q) ⟨[(0, .sl .fz (a0.map Pr.c)), (3, .int .i64 i_5305)], []⟩ (hq [] []) := by
  refine PL.ref03_Valid.l0.partial_correctness a0 (motive := fun i_5305 o => ∀ (hx0 : Sum.inl () = o → Q (.exit 0) ⟨[], []⟩ (hq [] [])) (hx1 : Sum.inr () = o → Q .ret ⟨[(2, .bool false)], []⟩ (hq [] [])), VW Try.prog 59 (codeAt [1, 1, 0, 1, 0, 0] (bodyOf Try.f19)) (thenQ (VL Try.prog 59 (codeAt [1, 1, 0, 1, 0, 0] (bodyOf Try.f19)) Q) Q) ⟨[(0, .sl .fz (a0.map Pr.c)), (3, .int .i64 i_5305)], []⟩ (hq [] [])) ?_
  intro _ ih i_5305 o h hx0 hx1
  refine VW.seq (VW.seq (VW.region (VO.t (t_move rfl rfl) rfl rfl (VO.t (t_move rfl rfl) rfl rfl (VO.t (v := .int .i64 (a0.length : Int)) (t_len rfl ⟨_, Try.underlying22⟩ rfl (by rw [List.length_map])) rfl rfl (VO.t (v := .bool (decide (i_5305 < (a0.length : Int)))) (t_cmp rfl rfl rfl rfl rfl) rfl rfl (VO.nil (thenQ_normal (VW.subK (.c 0 rfl (.c 3 rfl (.c 10 rfl .n))) rfl ?_)))))))))
  refine VW.cond (b := (decide (i_5305 < (a0.length : Int)))) rfl (fun hc_5314 => ?_) (fun hc_5314 => ?_)
  · replace h := iteT h hc_5314
    refine VW.skip (thenQ_normal (VW.subK (.c 0 rfl (.c 3 rfl .n)) rfl (VW.seq (VW.block (VW.seq (VW.draw 46 mix rfl (VA.phase (g := 34) [0, 1, 2, 3, 4, 5, 6, 7, 8, 9, 10, 11] 12 (VP.take (i := 0) rfl (TOp.r (t_move rfl rfl)) (.inl rfl) (by kernel_rfl) (VP.take (i := 1) rfl (TOp.r (t_move rfl rfl)) (.inl rfl) (by kernel_rfl) ?_)))))))))
    obtain ⟨c_5315, hc_5315, h⟩ := obind h
    refine VP.take (i := 2) (v := .vptr [.int .i64 c_5315.x0, .int .i64 c_5315.x1]) rfl (TOp.r (t_indexAddr rfl sl22 rfl rfl (getI_some hc_5315).1 (map_get (getI_some hc_5315).2 (Pr.c_eq c_5315)) rfl)) (.inl rfl) (by kernel_rfl) (VP.take (i := 3) (v := .vptr [.int .i64 c_5315.x0, .int .i64 c_5315.x1]) rfl (TOp.r (t_indexAddr_arr rfl ar49 rfl (fun _ _ => rfl) (by decide) (by decide) rfl)) (.inl rfl) (by kernel_rfl) (VP.take (i := 4) (v := .int .i64 c_5315.x0) rfl (r_load_v rfl sz3 rfl rfl) (.inl rfl) (by kernel_rfl) (VP.take (i := 5) rfl (TOp.r (t_move rfl rfl)) (.inl rfl) (by kernel_rfl) (VP.take (i := 6) rfl (TOp.r (t_move rfl rfl)) (.inl rfl) (by kernel_rfl) (VP.take (i := 7) (v := .vptr [.int .i64 c_5315.x0, .int .i64 c_5315.x1]) rfl (TOp.r (t_indexAddr rfl sl22 rfl rfl (getI_some hc_5315).1 (map_get (getI_some hc_5315).2 (Pr.c_eq c_5315)) rfl)) (.inl rfl) (by kernel_rfl) (VP.take (i := 8) (v := .vptr [.int .i64 c_5315.x1]) rfl (TOp.r (t_indexAddr_arr rfl ar49 rfl (fun _ _ => rfl) (by decide) (by decide) rfl)) (.inl rfl) (by kernel_rfl) (VP.take (i := 9) (v := .int .i64 c_5315.x1) rfl (r_load_v rfl sz3 rfl rfl) (.inl rfl) (by kernel_rfl) (VP.take (i := 10) (v := .bool (decide (c_5315.x0 > c_5315.x1))) rfl (TOp.r (t_cmp rfl rfl rfl rfl rfl)) (.inl rfl) (by kernel_rfl) (VP.take (i := 11) rfl (TOp.r (t_move rfl rfl)) (.inl rfl) (by kernel_rfl) ?_)))))))))
    refine VP.done (by kernel_rfl) ?_
    refine VA.caseB (d := 24) (b := (decide (c_5315.x0 > c_5315.x1))) rfl (fun hc_5316 => ?_) (fun hc_5316 => ?_)
    · replace h := iteT h hc_5316
      refine VA.skip (i := 12) rfl rfl rfl rfl rfl (by kernel_rfl) (VA.skip (i := 13) rfl rfl rfl rfl rfl (by kernel_rfl) (VA.skip (i := 14) rfl rfl rfl rfl rfl (by kernel_rfl) (VA.skip (i := 15) rfl rfl rfl rfl rfl (by kernel_rfl) (VA.skip (i := 16) rfl rfl rfl rfl rfl (by kernel_rfl) (VA.skip (i := 17) rfl rfl rfl rfl rfl (by kernel_rfl) (VA.t (i := 18) (v := .bool true) rfl (t_pick (b := true) rfl rfl (fun _ => (fun _ _ => rfl)) (fun h => by cases h)) (.inl rfl) (by kernel_rfl) (VA.t (i := 19) rfl (t_move rfl rfl) (.inl rfl) (by kernel_rfl) (VA.skip (i := 20) rfl rfl rfl rfl rfl (by kernel_rfl) (VA.skip (i := 21) rfl rfl rfl rfl rfl (by kernel_rfl) ?_)))))))))
      refine VA.skip (i := 22) rfl rfl rfl rfl rfl (by kernel_rfl) (VA.skip (i := 23) rfl rfl rfl rfl rfl (by kernel_rfl) (VA.skip (i := 24) rfl rfl rfl rfl rfl (by kernel_rfl) (VA.skip (i := 25) rfl rfl rfl rfl rfl (by kernel_rfl) (VA.t (i := 26) (v := .bool true) rfl (t_pick (b := true) rfl rfl (fun _ => (fun _ _ => rfl)) (fun h => by cases h)) (.inl rfl) (by kernel_rfl) (VA.t (i := 27) rfl (t_move rfl rfl) (.inl rfl) (by kernel_rfl) (VA.skip (i := 28) rfl rfl rfl rfl rfl (by kernel_rfl) (VA.skip (i := 29) rfl rfl rfl rfl rfl (by kernel_rfl) (VA.skip (i := 30) rfl rfl rfl rfl rfl (by kernel_rfl) (VA.skip (i := 31) rfl rfl rfl rfl rfl (by kernel_rfl) ?_)))))))))
      refine VA.skip (i := 32) rfl rfl rfl rfl rfl (by kernel_rfl) (VA.skip (i := 33) rfl rfl rfl rfl rfl (by kernel_rfl) (VA.skip (i := 34) rfl rfl rfl rfl rfl (by kernel_rfl) (VA.skip (i := 35) rfl rfl rfl rfl rfl (by kernel_rfl) (VA.skip (i := 36) rfl rfl rfl rfl rfl (by kernel_rfl) (VA.skip (i := 37) rfl rfl rfl rfl rfl (by kernel_rfl) (VA.skip (i := 38) rfl rfl rfl rfl rfl (by kernel_rfl) (VA.skip (i := 39) rfl rfl rfl rfl rfl (by kernel_rfl) (VA.skip (i := 40) rfl rfl rfl rfl rfl (by kernel_rfl) (VA.skip (i := 41) rfl rfl rfl rfl rfl (by kernel_rfl) ?_)))))))))
      refine VA.skip (i := 42) rfl rfl rfl rfl rfl (by kernel_rfl) (VA.skip (i := 43) rfl rfl rfl rfl rfl (by kernel_rfl) (VA.skip (i := 44) rfl rfl rfl rfl rfl (by kernel_rfl) (VA.t (i := 45) (v := .bool true) rfl (t_pick (b := true) rfl rfl (fun _ => (fun _ _ => rfl)) (fun h => by cases h)) (.inl rfl) (by kernel_rfl) (VA.done (by kernel_rfl) (thenQ_normal (VW.subK (.c 0 rfl (.c 3 rfl (.c 25 rfl (.c 26 rfl (.c 27 rfl (.c 28 rfl (.c 29 rfl (.c 30 rfl (.c 33 rfl (.c 34 rfl (.c 35 rfl (.c 36 rfl (.c 37 rfl (.c 38 rfl (.c 41 rfl (.c 42 rfl (.c 43 rfl (.c 44 rfl (.c 45 rfl (.c 46 rfl (.c 47 rfl (.c 48 rfl (.c 49 rfl (.c 50 rfl (.c 51 rfl (.c 52 rfl (.c 53 rfl (.c 54 rfl (.c 55 rfl (.c 56 rfl (.c 57 rfl (.c 58 rfl .n)))))))))))))))))))))))))))))))) rfl (VW.condT rfl (VW.seq (VW.region ?_)))))))))
      refine VO.t (v := .bool false) (t_assign rfl (fun _ _ => rfl)) rfl rfl (VO.nil (thenQ_normal (VW.subK (.c 2 rfl .n) rfl (VW.subK (.c 2 rfl .n) rfl (VW.ret (blockQ_ret (thenQ_ret (thenQ_ret ?_))))))))
      have h := Option.some.inj h
      subst h
      exact hx1  rfl
    · replace h := iteF h hc_5316
      refine VA.phase (g := 26) [12, 13, 14, 15, 16, 17, 18, 19] 8 (VP.take (i := 12) rfl (TOp.r (t_move rfl rfl)) (.inr ⟨_, _, _, rfl, rfl, rfl⟩) (by kernel_rfl) (VP.take (i := 13) rfl (TOp.r (t_move rfl rfl)) (.inr ⟨_, _, _, rfl, rfl, rfl⟩) (by kernel_rfl) (VP.take (i := 14) (v := .vptr [.int .i64 c_5315.x0, .int .i64 c_5315.x1]) rfl (TOp.r (t_indexAddr rfl sl22 rfl rfl (getI_some hc_5315).1 (map_get (getI_some hc_5315).2 (Pr.c_eq c_5315)) rfl)) (.inr ⟨_, _, _, rfl, rfl, rfl⟩) (by kernel_rfl) (VP.take (i := 15) (v := .vptr [.int .i64 c_5315.x0, .int .i64 c_5315.x1]) rfl (TOp.r (t_indexAddr_arr rfl ar49 rfl (fun _ _ => rfl) (by decide) (by decide) rfl)) (.inr ⟨_, _, _, rfl, rfl, rfl⟩) (by kernel_rfl) (VP.take (i := 16) (v := .int .i64 c_5315.x0) rfl (r_load_v rfl sz3 rfl rfl) (.inr ⟨_, _, _, rfl, rfl, rfl⟩) (by kernel_rfl) (VP.take (i := 17) (v := .bool (decide (c_5315.x0 < (-1000000000000000)))) rfl (TOp.r (t_cmp rfl rfl rfl (fun _ _ => rfl) rfl)) (.inr ⟨_, _, _, rfl, rfl, rfl⟩) (by kernel_rfl) (VP.take (i := 18) (v := .bool (decide (c_5315.x0 < (-1000000000000000)))) rfl (TOp.r (t_pick (b := false) rfl rfl (fun h => by cases h) (fun _ => rfl))) (.inl rfl) (by kernel_rfl) (VP.take (i := 19) rfl (TOp.r (t_move rfl rfl)) (.inl rfl) (by kernel_rfl) (VP.done (by kernel_rfl) ?_)))))))))
      refine VA.caseB (d := 32) (b := (decide (c_5315.x0 < (-1000000000000000)))) rfl (fun hc_5317 => ?_) (fun hc_5317 => ?_)
      · replace h := iteT h hc_5317
        refine VA.skip (i := 20) rfl rfl rfl rfl rfl (by kernel_rfl) (VA.skip (i := 21) rfl rfl rfl rfl rfl (by kernel_rfl) (VA.skip (i := 22) rfl rfl rfl rfl rfl (by kernel_rfl) (VA.skip (i := 23) rfl rfl rfl rfl rfl (by kernel_rfl) (VA.skip (i := 24) rfl rfl rfl rfl rfl (by kernel_rfl) (VA.skip (i := 25) rfl rfl rfl rfl rfl (by kernel_rfl) (VA.t (i := 26) (v := .bool true) rfl (t_pick (b := true) rfl rfl (fun _ => (fun _ _ => rfl)) (fun h => by cases h)) (.inl rfl) (by kernel_rfl) (VA.t (i := 27) rfl (t_move rfl rfl) (.inl rfl) (by kernel_rfl) (VA.skip (i := 28) rfl rfl rfl rfl rfl (by kernel_rfl) (VA.skip (i := 29) rfl rfl rfl rfl rfl (by kernel_rfl) ?_)))))))))
        refine VA.skip (i := 30) rfl rfl rfl rfl rfl (by kernel_rfl) (VA.skip (i := 31) rfl rfl rfl rfl rfl (by kernel_rfl) (VA.skip (i := 32) rfl rfl rfl rfl rfl (by kernel_rfl) (VA.skip (i := 33) rfl rfl rfl rfl rfl (by kernel_rfl) (VA.skip (i := 34) rfl rfl rfl rfl rfl (by kernel_rfl) (VA.skip (i := 35) rfl rfl rfl rfl rfl (by kernel_rfl) (VA.skip (i := 36) rfl rfl rfl rfl rfl (by kernel_rfl) (VA.skip (i := 37) rfl rfl rfl rfl rfl (by kernel_rfl) (VA.skip (i := 38) rfl rfl rfl rfl rfl (by kernel_rfl) (VA.skip (i := 39) rfl rfl rfl rfl rfl (by kernel_rfl) ?_)))))))))
        refine VA.skip (i := 40) rfl rfl rfl rfl rfl (by kernel_rfl) (VA.skip (i := 41) rfl rfl rfl rfl rfl (by kernel_rfl) (VA.skip (i := 42) rfl rfl rfl rfl rfl (by kernel_rfl) (VA.skip (i := 43) rfl rfl rfl rfl rfl (by kernel_rfl) (VA.skip (i := 44) rfl rfl rfl rfl rfl (by kernel_rfl) (VA.t (i := 45) (v := .bool true) rfl (t_pick (b := true) rfl rfl (fun _ => (fun _ _ => rfl)) (fun h => by cases h)) (.inl rfl) (by kernel_rfl) (VA.done (by kernel_rfl) (thenQ_normal (VW.subK (.c 0 rfl (.c 3 rfl (.c 25 rfl (.c 26 rfl (.c 27 rfl (.c 28 rfl (.c 29 rfl (.c 30 rfl (.c 33 rfl (.c 34 rfl (.c 35 rfl (.c 36 rfl (.c 37 rfl (.c 38 rfl (.c 41 rfl (.c 42 rfl (.c 43 rfl (.c 44 rfl (.c 45 rfl (.c 46 rfl (.c 47 rfl (.c 48 rfl (.c 49 rfl (.c 50 rfl (.c 51 rfl (.c 52 rfl (.c 53 rfl (.c 54 rfl (.c 55 rfl (.c 56 rfl (.c 57 rfl (.c 58 rfl .n)))))))))))))))))))))))))))))))) rfl (VW.condT rfl ?_)))))))))
        refine VW.seq (VW.region (VO.t (v := .bool false) (t_assign rfl (fun _ _ => rfl)) rfl rfl (VO.nil (thenQ_normal (VW.subK (.c 2 rfl .n) rfl (VW.subK (.c 2 rfl .n) rfl (VW.ret (blockQ_ret (thenQ_ret ?_)))))))))
        refine thenQ_ret ?_
        have h := Option.some.inj h
        subst h
        exact hx1  rfl
      · replace h := iteF h hc_5317
        refine VA.phase (g := 18) [20, 21, 22, 23, 24, 25, 26, 27] 8 (VP.take (i := 20) rfl (TOp.r (t_move rfl rfl)) (.inr ⟨_, _, _, rfl, rfl, rfl⟩) (by kernel_rfl) (VP.take (i := 21) rfl (TOp.r (t_move rfl rfl)) (.inr ⟨_, _, _, rfl, rfl, rfl⟩) (by kernel_rfl) (VP.take (i := 22) (v := .vptr [.int .i64 c_5315.x0, .int .i64 c_5315.x1]) rfl (TOp.r (t_indexAddr rfl sl22 rfl rfl (getI_some hc_5315).1 (map_get (getI_some hc_5315).2 (Pr.c_eq c_5315)) rfl)) (.inr ⟨_, _, _, rfl, rfl, rfl⟩) (by kernel_rfl) (VP.take (i := 23) (v := .vptr [.int .i64 c_5315.x1]) rfl (TOp.r (t_indexAddr_arr rfl ar49 rfl (fun _ _ => rfl) (by decide) (by decide) rfl)) (.inr ⟨_, _, _, rfl, rfl, rfl⟩) (by kernel_rfl) (VP.take (i := 24) (v := .int .i64 c_5315.x1) rfl (r_load_v rfl sz3 rfl rfl) (.inr ⟨_, _, _, rfl, rfl, rfl⟩) (by kernel_rfl) (VP.take (i := 25) (v := .bool (decide (c_5315.x1 > 1000000000000000))) rfl (TOp.r (t_cmp rfl rfl rfl (fun _ _ => rfl) rfl)) (.inr ⟨_, _, _, rfl, rfl, rfl⟩) (by kernel_rfl) (VP.take (i := 26) (v := .bool (decide (c_5315.x1 > 1000000000000000))) rfl (TOp.r (t_pick (b := false) rfl rfl (fun h => by cases h) (fun _ => rfl))) (.inl rfl) (by kernel_rfl) (VP.take (i := 27) rfl (TOp.r (t_move rfl rfl)) (.inl rfl) (by kernel_rfl) (VP.done (by kernel_rfl) ?_)))))))))
        refine VA.caseB (d := 40) (b := (decide (c_5315.x1 > 1000000000000000))) rfl (fun hc_5318 => ?_) (fun hc_5318 => ?_)
        · replace h := iteT h hc_5318
          refine VA.skip (i := 28) rfl rfl rfl rfl rfl (by kernel_rfl) (VA.skip (i := 29) rfl rfl rfl rfl rfl (by kernel_rfl) (VA.skip (i := 30) rfl rfl rfl rfl rfl (by kernel_rfl) (VA.skip (i := 31) rfl rfl rfl rfl rfl (by kernel_rfl) (VA.skip (i := 32) rfl rfl rfl rfl rfl (by kernel_rfl) (VA.skip (i := 33) rfl rfl rfl rfl rfl (by kernel_rfl) (VA.skip (i := 34) rfl rfl rfl rfl rfl (by kernel_rfl) (VA.skip (i := 35) rfl rfl rfl rfl rfl (by kernel_rfl) (VA.skip (i := 36) rfl rfl rfl rfl rfl (by kernel_rfl) (VA.skip (i := 37) rfl rfl rfl rfl rfl (by kernel_rfl) ?_)))))))))
          refine VA.skip (i := 38) rfl rfl rfl rfl rfl (by kernel_rfl) (VA.skip (i := 39) rfl rfl rfl rfl rfl (by kernel_rfl) (VA.skip (i := 40) rfl rfl rfl rfl rfl (by kernel_rfl) (VA.skip (i := 41) rfl rfl rfl rfl rfl (by kernel_rfl) (VA.skip (i := 42) rfl rfl rfl rfl rfl (by kernel_rfl) (VA.skip (i := 43) rfl rfl rfl rfl rfl (by kernel_rfl) (VA.skip (i := 44) rfl rfl rfl rfl rfl (by kernel_rfl) (VA.t (i := 45) (v := .bool true) rfl (t_pick (b := true) rfl rfl (fun _ => (fun _ _ => rfl)) (fun h => by cases h)) (.inl rfl) (by kernel_rfl) (VA.done (by kernel_rfl) (thenQ_normal ?_)))))))))
          refine VW.subK (.c 0 rfl (.c 3 rfl (.c 25 rfl (.c 26 rfl (.c 27 rfl (.c 28 rfl (.c 29 rfl (.c 30 rfl (.c 33 rfl (.c 34 rfl (.c 35 rfl (.c 36 rfl (.c 37 rfl (.c 38 rfl (.c 41 rfl (.c 42 rfl (.c 43 rfl (.c 44 rfl (.c 45 rfl (.c 46 rfl (.c 47 rfl (.c 48 rfl (.c 49 rfl (.c 50 rfl (.c 51 rfl (.c 52 rfl (.c 53 rfl (.c 54 rfl (.c 55 rfl (.c 56 rfl (.c 57 rfl (.c 58 rfl .n)))))))))))))))))))))))))))))))) rfl (VW.condT rfl (VW.seq (VW.region (VO.t (v := .bool false) (t_assign rfl (fun _ _ => rfl)) rfl rfl (VO.nil (thenQ_normal (VW.subK (.c 2 rfl .n) rfl (VW.subK (.c 2 rfl .n) rfl (VW.ret ?_)))))))))
          refine blockQ_ret (thenQ_ret (thenQ_ret ?_))
          have h := Option.some.inj h
          subst h
          exact hx1  rfl
        · replace h := iteF h hc_5318
          refine VA.t (i := 28) rfl (t_move rfl rfl) (.inr ⟨_, _, _, rfl, rfl, rfl⟩) (by kernel_rfl) (VA.t (i := 29) (v := .bool (decide (i_5305 > 0))) rfl (t_cmp rfl rfl rfl (fun _ _ => rfl) rfl) (.inr ⟨_, _, _, rfl, rfl, rfl⟩) (by kernel_rfl) (VA.t (i := 30) rfl (t_move rfl rfl) (.inr ⟨_, _, _, rfl, rfl, rfl⟩) (by kernel_rfl) ?_))
          refine VA.caseB (d := 43) (b := (decide (i_5305 > 0))) rfl (fun hc_5319 => ?_) (fun hc_5319 => ?_)
          · replace h := iteT h hc_5319
            refine VA.phase (g := 0) [31, 32, 33, 34, 35, 36, 37, 38, 39, 40, 41, 42, 43, 44, 45] 15 (VP.take (i := 31) rfl (TOp.r (t_move rfl rfl)) (.inr ⟨_, _, _, rfl, rfl, rfl⟩) (by kernel_rfl) (VP.take (i := 32) rfl (TOp.r (t_move rfl rfl)) (.inr ⟨_, _, _, rfl, rfl, rfl⟩) (by kernel_rfl) (VP.take (i := 33) (v := .vptr [.int .i64 c_5315.x0, .int .i64 c_5315.x1]) rfl (TOp.r (t_indexAddr rfl sl22 rfl rfl (getI_some hc_5315).1 (map_get (getI_some hc_5315).2 (Pr.c_eq c_5315)) rfl)) (.inr ⟨_, _, _, rfl, rfl, rfl⟩) (by kernel_rfl) (VP.take (i := 34) (v := .vptr [.int .i64 c_5315.x0, .int .i64 c_5315.x1]) rfl (TOp.r (t_indexAddr_arr rfl ar49 rfl (fun _ _ => rfl) (by decide) (by decide) rfl)) (.inr ⟨_, _, _, rfl, rfl, rfl⟩) (by kernel_rfl) (VP.take (i := 35) (v := .int .i64 c_5315.x0) rfl (r_load_v rfl sz3 rfl rfl) (.inr ⟨_, _, _, rfl, rfl, rfl⟩) (by kernel_rfl) (VP.take (i := 36) rfl (TOp.r (t_move rfl rfl)) (.inr ⟨_, _, _, rfl, rfl, rfl⟩) (by kernel_rfl) (VP.take (i := 37) rfl (TOp.r (t_move rfl rfl)) (.inr ⟨_, _, _, rfl, rfl, rfl⟩) (by kernel_rfl) (VP.take (i := 38) (v := .int .i64 (w64 (i_5305 - 1))) rfl (TOp.r (t_sub rfl rfl (fun _ _ => rfl) rfl)) (.inr ⟨_, _, _, rfl, rfl, rfl⟩) (by kernel_rfl) ?_))))))))
            obtain ⟨c_5320, hc_5320, h⟩ := obind h
            refine VP.take (i := 39) (v := .vptr [.int .i64 c_5320.x0, .int .i64 c_5320.x1]) rfl (TOp.r (t_indexAddr rfl sl22 rfl rfl (getI_some hc_5320).1 (map_get (getI_some hc_5320).2 (Pr.c_eq c_5320)) rfl)) (.inr ⟨_, _, _, rfl, rfl, rfl⟩) (by kernel_rfl) (VP.take (i := 40) (v := .vptr [.int .i64 c_5320.x1]) rfl (TOp.r (t_indexAddr_arr rfl ar49 rfl (fun _ _ => rfl) (by decide) (by decide) rfl)) (.inr ⟨_, _, _, rfl, rfl, rfl⟩) (by kernel_rfl) (VP.take (i := 41) (v := .int .i64 c_5320.x1) rfl (r_load_v rfl sz3 rfl rfl) (.inr ⟨_, _, _, rfl, rfl, rfl⟩) (by kernel_rfl) (VP.take (i := 42) (v := .int .i64 (w64 (c_5320.x1 + 2))) rfl (TOp.r (t_add rfl rfl (fun _ _ => rfl) rfl)) (.inr ⟨_, _, _, rfl, rfl, rfl⟩) (by kernel_rfl) (VP.take (i := 43) (v := .bool (decide (c_5315.x0 < (w64 (c_5320.x1 + 2))))) rfl (TOp.r (t_cmp rfl rfl rfl rfl rfl)) (.inr ⟨_, _, _, rfl, rfl, rfl⟩) (by kernel_rfl) (VP.take (i := 44) (v := .bool (decide (c_5315.x0 < (w64 (c_5320.x1 + 2))))) rfl (TOp.r (t_pick (b := true) rfl rfl (fun _ => rfl) (fun h => by cases h))) (.inr ⟨_, _, _, rfl, rfl, rfl⟩) (by kernel_rfl) (VP.take (i := 45) (v := .bool (decide (c_5315.x0 < (w64 (c_5320.x1 + 2))))) rfl (TOp.r (t_pick (b := false) rfl rfl (fun h => by cases h) (fun _ => rfl))) (.inl rfl) (by kernel_rfl) (VP.done (by kernel_rfl) (VA.done (by kernel_rfl) (thenQ_normal ?_)))))))))
            refine VW.subK (.c 0 rfl (.c 3 rfl (.c 25 rfl (.c 26 rfl (.c 27 rfl (.c 28 rfl (.c 29 rfl (.c 30 rfl (.c 33 rfl (.c 34 rfl (.c 35 rfl (.c 36 rfl (.c 37 rfl (.c 38 rfl (.c 41 rfl (.c 42 rfl (.c 43 rfl (.c 44 rfl (.c 45 rfl (.c 46 rfl (.c 47 rfl (.c 48 rfl (.c 49 rfl (.c 50 rfl (.c 51 rfl (.c 52 rfl (.c 53 rfl (.c 54 rfl (.c 55 rfl (.c 56 rfl (.c 57 rfl (.c 58 rfl .n)))))))))))))))))))))))))))))))) rfl ?_
            refine VW.cond (b := (decide (c_5315.x0 < (w64 (c_5320.x1 + 2))))) rfl (fun hc_5321 => ?_) (fun hc_5321 => ?_)
            · replace h := iteT h hc_5321
              refine VW.seq (VW.region (VO.t (v := .bool false) (t_assign rfl (fun _ _ => rfl)) rfl rfl (VO.nil (thenQ_normal (VW.subK (.c 2 rfl .n) rfl (VW.subK (.c 2 rfl .n) rfl (VW.ret (blockQ_ret (thenQ_ret ?_)))))))))
              refine thenQ_ret ?_
              have h := Option.some.inj h
              subst h
              exact hx1  rfl
            · replace h := iteF h hc_5321
              refine VW.skip (blockQ_normal (thenQ_normal (VW.subK (.c 0 rfl (.c 3 rfl (.c 25 rfl (.c 26 rfl (.c 27 rfl (.c 28 rfl (.c 29 rfl (.c 30 rfl (.c 33 rfl (.c 34 rfl (.c 35 rfl (.c 36 rfl (.c 37 rfl (.c 38 rfl (.c 41 rfl (.c 42 rfl (.c 43 rfl (.c 44 rfl (.c 45 rfl (.c 46 rfl (.c 47 rfl (.c 48 rfl (.c 49 rfl (.c 50 rfl (.c 51 rfl (.c 52 rfl (.c 53 rfl (.c 54 rfl (.c 55 rfl (.c 56 rfl (.c 57 rfl .n))))))))))))))))))))))))))))))) rfl (VW.region (VO.t (t_move rfl rfl) rfl rfl (VO.t (v := .int .i64 (w64 (i_5305 + 1))) (t_add rfl rfl (fun _ _ => rfl) rfl) rfl rfl (VO.t (v := .int .i64 (w64 (i_5305 + 1))) (t_assign rfl rfl) rfl rfl (VO.nil (thenQ_normal (VL.round ?_))))))))))
              refine VW.subK (.c 0 rfl (.c 3 rfl .n)) rfl ?_
              exact ih _ _ h hx0 hx1
          · replace h := iteF h hc_5319
            refine VA.skip (i := 31) rfl rfl rfl rfl rfl (by kernel_rfl) (VA.skip (i := 32) rfl rfl rfl rfl rfl (by kernel_rfl) (VA.skip (i := 33) rfl rfl rfl rfl rfl (by kernel_rfl) (VA.skip (i := 34) rfl rfl rfl rfl rfl (by kernel_rfl) (VA.skip (i := 35) rfl rfl rfl rfl rfl (by kernel_rfl) (VA.skip (i := 36) rfl rfl rfl rfl rfl (by kernel_rfl) (VA.skip (i := 37) rfl rfl rfl rfl rfl (by kernel_rfl) (VA.skip (i := 38) rfl rfl rfl rfl rfl (by kernel_rfl) (VA.skip (i := 39) rfl rfl rfl rfl rfl (by kernel_rfl) (VA.skip (i := 40) rfl rfl rfl rfl rfl (by kernel_rfl) ?_)))))))))
            refine VA.skip (i := 41) rfl rfl rfl rfl rfl (by kernel_rfl) (VA.skip (i := 42) rfl rfl rfl rfl rfl (by kernel_rfl) (VA.skip (i := 43) rfl rfl rfl rfl rfl (by kernel_rfl) (VA.t (i := 44) (v := .bool false) rfl (t_pick (b := false) rfl rfl (fun h => by cases h) (fun _ => (fun _ _ => rfl))) (.inr ⟨_, _, _, rfl, rfl, rfl⟩) (by kernel_rfl) (VA.t (i := 45) (v := .bool false) rfl (t_pick (b := false) rfl rfl (fun h => by cases h) (fun _ => rfl)) (.inl rfl) (by kernel_rfl) (VA.done (by kernel_rfl) (thenQ_normal (VW.subK (.c 0 rfl (.c 3 rfl (.c 25 rfl (.c 26 rfl (.c 27 rfl (.c 28 rfl (.c 29 rfl (.c 30 rfl (.c 33 rfl (.c 34 rfl (.c 35 rfl (.c 36 rfl (.c 37 rfl (.c 38 rfl (.c 41 rfl (.c 42 rfl (.c 43 rfl (.c 44 rfl (.c 45 rfl (.c 46 rfl (.c 47 rfl (.c 48 rfl (.c 49 rfl (.c 50 rfl (.c 51 rfl (.c 52 rfl (.c 53 rfl (.c 54 rfl (.c 55 rfl (.c 56 rfl (.c 57 rfl (.c 58 rfl .n)))))))))))))))))))))))))))))))) rfl (VW.condF rfl (VW.skip ?_)))))))))
            refine blockQ_normal (thenQ_normal (VW.subK (.c 0 rfl (.c 3 rfl (.c 25 rfl (.c 26 rfl (.c 27 rfl (.c 28 rfl (.c 29 rfl (.c 30 rfl (.c 33 rfl (.c 34 rfl (.c 35 rfl (.c 36 rfl (.c 37 rfl (.c 38 rfl (.c 41 rfl (.c 42 rfl (.c 43 rfl (.c 44 rfl (.c 45 rfl (.c 46 rfl (.c 47 rfl (.c 48 rfl (.c 49 rfl (.c 50 rfl (.c 51 rfl (.c 52 rfl (.c 53 rfl (.c 54 rfl (.c 55 rfl (.c 56 rfl (.c 57 rfl .n))))))))))))))))))))))))))))))) rfl (VW.region (VO.t (t_move rfl rfl) rfl rfl (VO.t (v := .int .i64 (w64 (i_5305 + 1))) (t_add rfl rfl (fun _ _ => rfl) rfl) rfl rfl (VO.t (v := .int .i64 (w64 (i_5305 + 1))) (t_assign rfl rfl) rfl rfl (VO.nil (thenQ_normal (VL.round ?_)))))))))
            refine VW.subK (.c 0 rfl (.c 3 rfl .n)) rfl ?_
            exact ih _ _ h hx0 hx1
  · replace h := iteF h hc_5314
    refine VW.subN (t' := []) trivial rfl (VW.exit (thenQ_exit (thenQ_exit ?_)))
    have h := Option.some.inj h
    subst h
    exact hx0  rfl

theorem ref03_Valid_ok (a0 : List Pr) (r : Bool) (h : PL.ref03_Valid a0 = some r) :
    VCalls Try.prog 19 [.sl .fz (a0.map Pr.c)] (hq [] []) (fun v H => .bool r = v ∧ H = hq [] []) := by
  unfold PL.ref03_Valid at h
  refine VCalls.of_body 59 [2] Try.func19 rfl rfl rfl (Nat.le_of_ble_eq_true rfl) (VW.subK (.c 0 rfl .n) rfl (VW.seq (VW.region (VO.t (v := .bool false) (t_assign rfl (fun _ _ => rfl)) rfl rfl (VO.nil (thenQ_normal (VW.subK (.c 0 rfl .n) rfl (VW.seq (VW.seq ?_)))))))))
  refine VW.region (VO.t (t_move rfl rfl) rfl rfl (VO.t (v := .int .i64 (a0.length : Int)) (t_len rfl ⟨_, Try.underlying22⟩ rfl (by rw [List.length_map])) rfl rfl (VO.t (v := .bool (decide ((a0.length : Int) > 100))) (t_cmp rfl rfl rfl (fun _ _ => rfl) rfl) rfl rfl (VO.nil (thenQ_normal (VW.subK (.c 0 rfl (.c 6 rfl .n)) rfl ?_))))))
  refine VW.cond (b := (decide ((a0.length : Int) > 100))) rfl (fun hc_5275 => ?_) (fun hc_5275 => ?_)
  · replace h := iteT h hc_5275
    refine VW.seq (VW.region (VO.t (v := .bool false) (t_assign rfl (fun _ _ => rfl)) rfl rfl (VO.nil (thenQ_normal (VW.subK (.c 2 rfl .n) rfl (VW.ret (thenQ_ret ?_)))))))
    have h := Option.some.inj h
    subst h
    exact ⟨.inr rfl, rfl, _, .bool false, hq [] [], rfl, VLe.refl _, hq_sub .slnil .slnil, rfl, rfl⟩
  · replace h := iteF h hc_5275
    refine VW.skip (thenQ_normal (VW.subK (.c 0 rfl .n) rfl (VW.seq (VW.seq (VW.region (VO.t (v := .int .i64 0) (t_assign rfl (fun _ _ => rfl)) rfl rfl (VO.nil (thenQ_normal (VW.block ?_)))))))))
    refine VW.subK (.c 0 rfl (.c 3 rfl .n)) rfl ?_
    obtain ⟨o_5322, hx_5323, h⟩ := obind h
    refine VW.loopL (ref03_Valid.l0_ok a0 _ _ hx_5323 ?_ ?_)
    · intro ho_
      subst ho_
      try dsimp only at h
      refine blockQ_hit (thenQ_normal (VW.seq (VW.region (VO.t (v := .bool true) (t_assign rfl (fun _ _ => rfl)) rfl rfl (VO.nil (thenQ_normal (VW.ret ?_)))))))
      have h := Option.some.inj h
      subst h
      exact ⟨.inr rfl, rfl, _, .bool true, hq [] [], rfl, VLe.refl _, hq_sub .slnil .slnil, rfl, rfl⟩
    · intro ho_
      subst ho_
      try dsimp only at h
      refine blockQ_ret (thenQ_ret ?_)
      have h := Option.some.inj h
      subst h
      exact ⟨.inr rfl, rfl, _, .bool false, hq [] [], rfl, VLe.refl _, hq_sub .slnil .slnil, rfl, rfl⟩

theorem ref03_told_ok (a0 : List Pr) (r : List Pr × Int) (h : PL.ref03_told a0 = some r) :
    VCalls Try.prog 48 [.sl .fz (a0.map Pr.c)] (hq [] []) (fun v H => .tup [.sl .fz (r.1.map Pr.c), .int .i64 r.2] = v ∧ H = hq [] []) := by
  unfold PL.ref03_told at h
  refine VCalls.of_body 8 [2, 3] Try.func48 rfl rfl rfl (Nat.le_of_ble_eq_true rfl) (VW.subK (.c 0 rfl .n) rfl (VW.seq (VW.region (VO.t (v := .sl .nl []) (t_assign rfl (fun _ _ => .inl ⟨rfl, .inl rfl⟩)) rfl rfl (VO.t (v := .int .i64 0) (t_assign rfl (fun _ _ => rfl)) rfl rfl (VO.nil (thenQ_normal (VW.subK (.c 0 rfl .n) rfl (VW.seq ?_)))))))))
  refine VW.seq (VW.region (VO.t (t_move rfl rfl) rfl rfl (VO.t (v := .int .i64 (a0.length : Int)) (t_len rfl ⟨_, Try.underlying22⟩ rfl (by rw [List.length_map])) rfl rfl (VO.t (v := .bool (decide ((a0.length : Int) > 100))) (t_cmp rfl rfl rfl (fun _ _ => rfl) rfl) rfl rfl (VO.nil (thenQ_normal (VW.subK (.c 0 rfl (.c 6 rfl .n)) rfl ?_)))))))
  refine VW.cond (b := (decide ((a0.length : Int) > 100))) rfl (fun hc_5324 => ?_) (fun hc_5324 => ?_)
  · replace h := iteT h hc_5324
    refine VW.seq (VW.region (VO.t (v := .sl .nl []) (t_assign rfl (fun _ _ => .inl ⟨rfl, .inl rfl⟩)) rfl rfl (VO.t (v := .int .i64 2) (t_assign rfl (fun _ _ => rfl)) rfl rfl (VO.nil (thenQ_normal (VW.subK (.c 2 rfl (.c 3 rfl .n)) rfl (VW.ret (thenQ_ret ?_))))))))
    have h := Option.some.inj h
    subst h
    exact ⟨.inr rfl, rfl, _, .tup [.sl .fz [], .int .i64 2], hq [] [], ⟨_, _, rfl, rfl, rfl⟩, VLe.tup ⟨VLe.sl _ _, VLe.refl _, trivial⟩, hq_sub .slnil .slnil, rfl, rfl⟩
  · replace h := iteF h hc_5324
    refine VW.skip (thenQ_normal (VW.subK (.c 0 rfl .n) rfl (VW.seq (VW.region (VO.t (t_move rfl rfl) rfl rfl (VO.t (v := .sl .fz (a0.map Pr.c)) (t_assign rfl rfl) rfl rfl (VO.t (v := .int .i64 0) (t_assign rfl (fun _ _ => rfl)) rfl rfl (VO.nil (thenQ_normal ?_)))))))))
    refine VW.subK (.c 2 rfl (.c 3 rfl .n)) rfl (VW.ret ?_)
    have h := Option.some.inj h
    subst h
    exact ⟨.inr rfl, rfl, _, .tup [.sl .fz (a0.map Pr.c), .int .i64 0], hq [] [], ⟨_, _, rfl, rfl, rfl⟩, VLe.tup ⟨VLe.refl _, VLe.refl _, trivial⟩, hq_sub .slnil .slnil, rfl, rfl⟩

theorem ref03_Holds_ok (a0 : Node) (a1 : Int) (r : Bool) (h : PL.ref03_Holds a0 a1 = some r) :
    VCalls Try.prog 25 [.agg [.int .i64 a0.Op, .int .i64 a0.Lo, .int .i64 a0.Hi, .sl .fz (a0.Kids.map Node.c)], .int .i64 a1] (hq [] []) (fun v H => .bool r = v ∧ H = hq [] []) := by
  revert h
  refine (PL.ref03_Holds.l0.mutual_partial_correctness a1 (motive_1 := fun a0 i_5352 o => ∀ (Q : Exit → Env → HH → Prop) (ob_5325 : Nat) (hx0 : Sum.inl () = o → Q (.exit 1) ⟨[], []⟩ (hq [] [])) (hx1 : Sum.inr () = o → Q .ret ⟨[(4, .bool true)], []⟩ (hq [] [])), VW Try.prog 85 (codeAt [1, 0, 1, 0, 1, 1, 1, 0, 0, 1, 0, 0] (bodyOf Try.f25)) (thenQ (VL Try.prog 85 (codeAt [1, 0, 1, 0, 1, 1, 1, 0, 0, 1, 0, 0] (bodyOf Try.f25)) Q) Q) ⟨[(1, .int .i64 a1), (2, .ptr ob_5325 0), (5, .int .i64 i_5352)], []⟩ (hq ([[(ob_5325, .cells [.int .i64 a0.Op, .int .i64 a0.Lo, .int .i64 a0.Hi, .sl .fz (a0.Kids.map Node.c)])]]) [])) (motive_2 := fun a0 r => VCalls Try.prog 25 [.agg [.int .i64 a0.Op, .int .i64 a0.Lo, .int .i64 a0.Hi, .sl .fz (a0.Kids.map Node.c)], .int .i64 a1] (hq [] []) (fun v H => .bool r = v ∧ H = hq [] [])) (motive_3 := fun a0 i_5389 o => ∀ (Q : Exit → Env → HH → Prop) (ob_5325 : Nat) (hx0 : Sum.inl () = o → Q (.exit 3) ⟨[], []⟩ (hq [] [])) (hx1 : Sum.inr () = o → Q .ret ⟨[(4, .bool false)], []⟩ (hq [] [])), VW Try.prog 85 (codeAt [1, 0, 1, 0, 1, 1, 1, 1, 1, 0, 0, 1, 0, 0] (bodyOf Try.f25)) (thenQ (VL Try.prog 85 (codeAt [1, 0, 1, 0, 1, 1, 1, 1, 1, 0, 0, 1, 0, 0] (bodyOf Try.f25)) Q) Q) ⟨[(1, .int .i64 a1), (2, .ptr ob_5325 0), (6, .int .i64 i_5389)], []⟩ (hq ([[(ob_5325, .cells [.int .i64 a0.Op, .int .i64 a0.Lo, .int .i64 a0.Hi, .sl .fz (a0.Kids.map Node.c)])]]) [])) ?_ ?_ ?_).2.1 a0 r
  · intro _ _ ih_ref03_Holds_l0 ih_ref03_Holds a0 i_5352 o h Q ob_5325 hx0 hx1
    refine VW.seq (VW.seq (VW.region (VO.t (t_move rfl rfl) rfl rfl (VO.t (v := .ptr ob_5325 3) (t_fieldAddr_ptr rfl fi36_3 rfl rfl) rfl rfl (VO.r (v := .sl .fz (a0.Kids.map Node.c)) (r_load_q (i := 0) rfl sz34 rfl rfl rfl) rfl rfl (VO.t (v := .int .i64 (a0.Kids.length : Int)) (t_len rfl ⟨_, Try.underlying34⟩ rfl (by rw [List.length_map])) rfl rfl (VO.t (v := .bool (decide (i_5352 < (a0.Kids.length : Int)))) (t_cmp rfl rfl rfl rfl rfl) rfl rfl (VO.nil (thenQ_normal ?_)))))))))
    refine VW.subK (.c 1 rfl (.c 2 rfl (.c 5 rfl (.c 27 rfl .n)))) rfl ?_
    refine VW.cond (b := (decide (i_5352 < (a0.Kids.length : Int)))) rfl (fun hc_5358 => ?_) (fun hc_5358 => ?_)
    · replace h := iteT h hc_5358
      refine VW.skip (thenQ_normal (VW.subK (.c 1 rfl (.c 2 rfl (.c 5 rfl .n))) rfl (VW.seq (VW.block (VW.seq (VW.region (VO.t (v := .ptr ob_5325 3) (t_fieldAddr_ptr rfl fi36_3 rfl rfl) rfl rfl (VO.r (v := .sl .fz (a0.Kids.map Node.c)) (r_load_q (i := 0) rfl sz34 rfl rfl rfl) rfl rfl (VO.t (t_move rfl rfl) rfl rfl ?_)))))))))
      obtain ⟨c_5359, hc_5359, h⟩ := obind h
      refine VO.t (v := .vptr [.int .i64 c_5359.Op, .int .i64 c_5359.Lo, .int .i64 c_5359.Hi, .sl .fz (c_5359.Kids.map Node.c)]) (t_indexAddr rfl sl34 rfl rfl (getI_some hc_5359).1 (map_get (getI_some hc_5359).2 (Node.c_eq c_5359)) rfl) rfl rfl (VO.r (v := .agg [.int .i64 c_5359.Op, .int .i64 c_5359.Lo, .int .i64 c_5359.Hi, .sl .fz (c_5359.Kids.map Node.c)]) (r_load_v rfl sz36 rfl rfl) rfl rfl (VO.t (t_move rfl rfl) rfl rfl ?_))
      obtain ⟨rv_5360, hx_5361, h⟩ := obind h
      refine VO.w (fun v H' => .bool rv_5360 = v ∧ H' = hq ([[(ob_5325, .cells [.int .i64 a0.Op, .int .i64 a0.Lo, .int .i64 a0.Hi, .sl .fz (a0.Kids.map Node.c)])]]) []) (w_call_q (sa := []) (sg := [[(ob_5325, .cells [.int .i64 a0.Op, .int .i64 a0.Lo, .int .i64 a0.Hi, .sl .fz (a0.Kids.map Node.c)])]]) (tks := []) rfl fn25 rfl ⟨_, _, rfl, rfl, _, _, rfl, rfl, rfl⟩ (ih_ref03_Holds _ _ hx_5361) (by rintro v H' ⟨rfl, rfl⟩; exact ⟨[], rfl, rfl, rfl⟩)) rfl rfl ?_
      rintro _ _ ⟨rfl, rfl⟩
      refine VO.nil (thenQ_normal (VW.subK (.c 1 rfl (.c 2 rfl (.c 5 rfl (.c 36 rfl .n)))) rfl ?_))
      refine VW.cond (b := rv_5360) rfl (fun hc_5362 => ?_) (fun hc_5362 => ?_)
      · replace h := iteT h hc_5362
        refine VW.seq (VW.region (VO.t (v := .bool true) (t_assign rfl (fun _ _ => rfl)) rfl rfl (VO.nil (thenQ_normal (VW.subK (.c 4 rfl .n) rfl (VW.hsub (A := hq [] []) (hq_sub (.cons _ .slnil) .slnil) (VW.subK (.c 4 rfl .n) rfl (VW.ret (blockQ_ret ?_)))))))))
        refine thenQ_ret (thenQ_ret ?_)
        have h := Option.some.inj h
        subst h
        exact hx1  rfl
      · replace h := iteF h hc_5362
        refine VW.skip (blockQ_normal (thenQ_normal (VW.subK (.c 1 rfl (.c 2 rfl (.c 5 rfl .n))) rfl (VW.region (VO.t (t_move rfl rfl) rfl rfl (VO.t (v := .int .i64 (w64 (i_5352 + 1))) (t_add rfl rfl (fun _ _ => rfl) rfl) rfl rfl (VO.t (v := .int .i64 (w64 (i_5352 + 1))) (t_assign rfl rfl) rfl rfl (VO.nil (thenQ_normal (VL.round ?_))))))))))
        refine VW.subK (.c 1 rfl (.c 2 rfl (.c 5 rfl .n))) rfl ?_
        exact ih_ref03_Holds_l0 _ _ _ h _ ob_5325 hx0 hx1
    · replace h := iteF h hc_5358
      refine VW.subN (t' := []) trivial rfl (VW.hsub (A := hq [] []) (hq_sub (.cons _ .slnil) .slnil) (VW.exit (thenQ_exit (thenQ_exit ?_))))
      have h := Option.some.inj h
      subst h
      exact hx0  rfl
  · intro _ _ _ ih_ref03_Holds_l0 ih_ref03_Holds ih_ref03_Holds_l1 a0 r h 
    refine VCalls.of_body 85 [4] Try.func25 rfl rfl rfl (Nat.le_of_ble_eq_true rfl) (VW.subK (.c 0 rfl (.c 1 rfl .n)) rfl (VW.seq (VW.region (VO.w (fun v H' => ∃ ob_5325, .ptr ob_5325 0 = v ∧ H' = hq ([[(ob_5325, .cells [.int .i64 a0.Op, .int .i64 a0.Lo, .int .i64 a0.Hi, .sl .fz (a0.Kids.map Node.c)])]]) []) (w_box_q rfl rfl rfl (fun ob => ⟨ob, rfl, rfl⟩)) rfl rfl ?_))))
    rintro _ _ ⟨ob_5325, rfl, rfl⟩
    refine VO.t (v := .bool false) (t_assign rfl (fun _ _ => rfl)) rfl rfl (VO.nil (thenQ_normal (VW.subK (.c 1 rfl (.c 2 rfl .n)) rfl (VW.seq (VW.seq (VW.region (VO.t (v := .ptr ob_5325 0) (t_fieldAddr_ptr rfl fi36_0 rfl rfl) rfl rfl (VO.r (v := .int .i64 a0.Op) (r_load_q (i := 0) rfl sz3 rfl rfl rfl) rfl rfl (VO.nil ?_)))))))))
    refine thenQ_normal (VW.subK (.c 1 rfl (.c 2 rfl (.c 8 rfl .n))) rfl (VW.block (VW.seq (VW.region (VO.t (v := .bool (a0.Op == 0)) (t_cmp rfl rfl rfl (fun _ _ => rfl) rfl) rfl rfl (VO.t (v := .bool (a0.Op == 0)) (t_assign rfl rfl) rfl rfl (VO.nil (thenQ_normal (VW.subK (.c 1 rfl (.c 2 rfl (.c 8 rfl (.c 9 rfl .n)))) rfl ?_)))))))))
    refine VW.cond (b := (a0.Op == 0)) rfl (fun hc_5326 => ?_) (fun hc_5326 => ?_)
    · replace h := iteT h hc_5326
      refine VW.seq (VW.region (VO.t (t_move rfl rfl) rfl rfl (VO.t (v := .ptr ob_5325 1) (t_fieldAddr_ptr rfl fi36_1 rfl rfl) rfl rfl (VO.r (v := .int .i64 a0.Lo) (r_load_q (i := 0) rfl sz3 rfl rfl rfl) rfl rfl (VO.t (v := .bool (decide (a1 ≥ a0.Lo))) (t_cmp rfl rfl rfl rfl rfl) rfl rfl (VO.t (t_move rfl rfl) rfl rfl ?_))))))
      refine VO.caseB (d := 15) (b := (decide (a1 ≥ a0.Lo))) rfl (fun hc_5327 => ?_) (fun hc_5327 => ?_)
      · replace h := iteT h hc_5327
        refine VO.gt (v := .int .i64 a1) (t_move rfl rfl) rfl rfl rfl rfl (VO.gt (v := .ptr ob_5325 2) (t_fieldAddr_ptr rfl fi36_2 rfl rfl) rfl rfl rfl rfl (VO.gr (v := .int .i64 a0.Hi) (r_load_q (i := 0) rfl sz3 rfl rfl rfl) rfl rfl rfl rfl (VO.gt (v := .bool (decide (a1 ≤ a0.Hi))) (t_cmp rfl rfl rfl rfl rfl) rfl rfl rfl rfl (VO.t (v := .bool (decide (a1 ≤ a0.Hi))) (t_pick (b := true) rfl rfl (fun _ => rfl) (fun h => by cases h)) rfl rfl (VO.t (v := .bool (decide (a1 ≤ a0.Hi))) (t_assign rfl rfl) rfl rfl (VO.nil (thenQ_normal (VW.subK (.c 4 rfl .n) rfl (VW.hsub (A := hq [] []) (hq_sub (.cons _ .slnil) .slnil) ?_)))))))))
        refine VW.ret (blockQ_ret (thenQ_ret ?_))
        have h := Option.some.inj h
        subst h
        exact ⟨.inr rfl, rfl, _, .bool (decide (a1 ≤ a0.Hi)), hq [] [], rfl, VLe.refl _, hq_sub .slnil .slnil, rfl, rfl⟩
      · replace h := iteF h hc_5327
        refine VO.gskip rfl rfl rfl rfl rfl (VO.gskip rfl rfl rfl rfl rfl (VO.gskip rfl rfl rfl rfl rfl (VO.gskip rfl rfl rfl rfl rfl (VO.t (v := .bool false) (t_pick (b := false) rfl rfl (fun h => by cases h) (fun _ => (fun _ _ => rfl))) rfl rfl (VO.t (v := .bool false) (t_assign rfl rfl) rfl rfl (VO.nil (thenQ_normal (VW.subK (.c 4 rfl .n) rfl (VW.hsub (A := hq [] []) (hq_sub (.cons _ .slnil) .slnil) ?_)))))))))
        refine VW.ret (blockQ_ret (thenQ_ret ?_))
        have h := Option.some.inj h
        subst h
        exact ⟨.inr rfl, rfl, _, .bool false, hq [] [], rfl, VLe.refl _, hq_sub .slnil .slnil, rfl, rfl⟩
    · replace h := iteF h hc_5326
      refine VW.seq (VW.region (VO.t (v := .bool (a0.Op == 1)) (t_cmp rfl rfl rfl (fun _ _ => rfl) rfl) rfl rfl (VO.t (v := .bool (a0.Op == 1)) (t_assign rfl rfl) rfl rfl (VO.nil (thenQ_normal (VW.subK (.c 1 rfl (.c 2 rfl (.c 8 rfl (.c 21 rfl .n)))) rfl ?_))))))
      refine VW.cond (b := (a0.Op == 1)) rfl (fun hc_5328 => ?_) (fun hc_5328 => ?_)
      · replace h := iteT h hc_5328
        refine VW.seq (VW.seq (VW.region (VO.t (v := .int .i64 0) (t_assign rfl (fun _ _ => rfl)) rfl rfl (VO.nil (thenQ_normal (VW.subK (.c 1 rfl (.c 2 rfl (.c 5 rfl .n))) rfl (VW.block (VW.subK (.c 1 rfl (.c 2 rfl (.c 5 rfl .n))) rfl ?_))))))))
        obtain ⟨o_5363, hx_5364, h⟩ := obind h
        refine VW.loopL (ih_ref03_Holds_l0 _ _ _ hx_5364 _ ob_5325 ?_ ?_)
        · intro ho_
          subst ho_
          try dsimp only at h
          refine blockQ_hit (thenQ_normal (VW.seq (VW.region (VO.t (v := .bool false) (t_assign rfl (fun _ _ => rfl)) rfl rfl (VO.nil (thenQ_normal (VW.ret (blockQ_ret (thenQ_ret ?_)))))))))
          have h := Option.some.inj h
          subst h
          exact ⟨.inr rfl, rfl, _, .bool false, hq [] [], rfl, VLe.refl _, hq_sub .slnil .slnil, rfl, rfl⟩
        · intro ho_
          subst ho_
          try dsimp only at h
          refine blockQ_ret (thenQ_ret (blockQ_ret (thenQ_ret ?_)))
          have h := Option.some.inj h
          subst h
          exact ⟨.inr rfl, rfl, _, .bool true, hq [] [], rfl, VLe.refl _, hq_sub .slnil .slnil, rfl, rfl⟩
      · replace h := iteF h hc_5328
        refine VW.seq (VW.region (VO.t (v := .bool (a0.Op == 2)) (t_cmp rfl rfl rfl (fun _ _ => rfl) rfl) rfl rfl (VO.t (v := .bool (a0.Op == 2)) (t_assign rfl rfl) rfl rfl (VO.nil (thenQ_normal (VW.subK (.c 1 rfl (.c 2 rfl (.c 8 rfl (.c 37 rfl .n)))) rfl ?_))))))
        refine VW.cond (b := (a0.Op == 2)) rfl (fun hc_5365 => ?_) (fun hc_5365 => ?_)
        · replace h := iteT h hc_5365
          refine VW.seq (VW.seq (VW.region (VO.t (v := .int .i64 0) (t_assign rfl (fun _ _ => rfl)) rfl rfl (VO.nil (thenQ_normal (VW.subK (.c 1 rfl (.c 2 rfl (.c 6 rfl .n))) rfl (VW.block (VW.subK (.c 1 rfl (.c 2 rfl (.c 6 rfl .n))) rfl ?_))))))))
          obtain ⟨o_5400, hx_5401, h⟩ := obind h
          refine VW.loopL (ih_ref03_Holds_l1 _ _ _ hx_5401 _ ob_5325 ?_ ?_)
          · intro ho_
            subst ho_
            try dsimp only at h
            refine blockQ_hit (thenQ_normal (VW.seq (VW.region (VO.t (v := .bool true) (t_assign rfl (fun _ _ => rfl)) rfl rfl (VO.nil (thenQ_normal (VW.ret (blockQ_ret (thenQ_ret ?_)))))))))
            have h := Option.some.inj h
            subst h
            exact ⟨.inr rfl, rfl, _, .bool true, hq [] [], rfl, VLe.refl _, hq_sub .slnil .slnil, rfl, rfl⟩
          · intro ho_
            subst ho_
            try dsimp only at h
            refine blockQ_ret (thenQ_ret (blockQ_ret (thenQ_ret ?_)))
            have h := Option.some.inj h
            subst h
            exact ⟨.inr rfl, rfl, _, .bool false, hq [] [], rfl, VLe.refl _, hq_sub .slnil .slnil, rfl, rfl⟩
        · replace h := iteF h hc_5365
          refine VW.seq (VW.region (VO.t (v := .bool (a0.Op == 3)) (t_cmp rfl rfl rfl (fun _ _ => rfl) rfl) rfl rfl (VO.t (v := .bool (a0.Op == 3)) (t_assign rfl rfl) rfl rfl (VO.nil (thenQ_normal (VW.subK (.c 1 rfl (.c 2 rfl (.c 8 rfl (.c 54 rfl .n)))) rfl ?_))))))
          refine VW.cond (b := (a0.Op == 3)) rfl (fun hc_5402 => ?_) (fun hc_5402 => ?_)
          · replace h := iteT h hc_5402
            refine VW.seq (VW.region (VO.t (v := .ptr ob_5325 3) (t_fieldAddr_ptr rfl fi36_3 rfl rfl) rfl rfl (VO.r (v := .sl .fz (a0.Kids.map Node.c)) (r_load_q (i := 0) rfl sz34 rfl rfl rfl) rfl rfl ?_)))
            obtain ⟨c_5403, hc_5403, h⟩ := obind h
            refine VO.t (v := .vptr [.int .i64 c_5403.Op, .int .i64 c_5403.Lo, .int .i64 c_5403.Hi, .sl .fz (c_5403.Kids.map Node.c)]) (t_indexAddr rfl sl34 rfl (fun _ _ => rfl) (getI_some hc_5403).1 (map_get (getI_some hc_5403).2 (Node.c_eq c_5403)) rfl) rfl rfl (VO.r (v := .agg [.int .i64 c_5403.Op, .int .i64 c_5403.Lo, .int .i64 c_5403.Hi, .sl .fz (c_5403.Kids.map Node.c)]) (r_load_v rfl sz36 rfl rfl) rfl rfl (VO.t (t_move rfl rfl) rfl rfl ?_))
            obtain ⟨rv_5404, hx_5405, h⟩ := obind h
            refine VO.w (fun v H' => .bool rv_5404 = v ∧ H' = hq ([[(ob_5325, .cells [.int .i64 a0.Op, .int .i64 a0.Lo, .int .i64 a0.Hi, .sl .fz (a0.Kids.map Node.c)])]]) []) (w_call_q (sa := []) (sg := [[(ob_5325, .cells [.int .i64 a0.Op, .int .i64 a0.Lo, .int .i64 a0.Hi, .sl .fz (a0.Kids.map Node.c)])]]) (tks := []) rfl fn25 rfl ⟨_, _, rfl, rfl, _, _, rfl, rfl, rfl⟩ (ih_ref03_Holds _ _ hx_5405) (by rintro v H' ⟨rfl, rfl⟩; exact ⟨[], rfl, rfl, rfl⟩)) rfl rfl ?_
            rintro _ _ ⟨rfl, rfl⟩
            refine VO.t (t_move rfl rfl) rfl rfl ?_
            refine VO.caseB (d := 62) (b := rv_5404) rfl (fun hc_5406 => ?_) (fun hc_5406 => ?_)
            · replace h := iteT h hc_5406
              refine VO.gt (v := .ptr ob_5325 3) (t_fieldAddr_ptr rfl fi36_3 rfl rfl) rfl rfl rfl rfl (VO.gr (v := .sl .fz (a0.Kids.map Node.c)) (r_load_q (i := 0) rfl sz34 rfl rfl rfl) rfl rfl rfl rfl ?_)
              obtain ⟨c_5407, hc_5407, h⟩ := obind h
              refine VO.gt (v := .vptr [.int .i64 c_5407.Op, .int .i64 c_5407.Lo, .int .i64 c_5407.Hi, .sl .fz (c_5407.Kids.map Node.c)]) (t_indexAddr rfl sl34 rfl (fun _ _ => rfl) (getI_some hc_5407).1 (map_get (getI_some hc_5407).2 (Node.c_eq c_5407)) rfl) rfl rfl rfl rfl (VO.gr (v := .agg [.int .i64 c_5407.Op, .int .i64 c_5407.Lo, .int .i64 c_5407.Hi, .sl .fz (c_5407.Kids.map Node.c)]) (r_load_v rfl sz36 rfl rfl) rfl rfl rfl rfl (VO.gt (v := .int .i64 a1) (t_move rfl rfl) rfl rfl rfl rfl ?_))
              obtain ⟨rv_5408, hx_5409, h⟩ := obind h
              refine VO.gw (fun v H' => .bool rv_5408 = v ∧ H' = hq ([[(ob_5325, .cells [.int .i64 a0.Op, .int .i64 a0.Lo, .int .i64 a0.Hi, .sl .fz (a0.Kids.map Node.c)])]]) []) (w_call_q (sa := []) (sg := [[(ob_5325, .cells [.int .i64 a0.Op, .int .i64 a0.Lo, .int .i64 a0.Hi, .sl .fz (a0.Kids.map Node.c)])]]) (tks := []) rfl fn25 rfl ⟨_, _, rfl, rfl, _, _, rfl, rfl, rfl⟩ (ih_ref03_Holds _ _ hx_5409) (by rintro v H' ⟨rfl, rfl⟩; exact ⟨[], rfl, rfl, rfl⟩)) rfl rfl rfl rfl ?_
              rintro _ _ ⟨rfl, rfl⟩
              refine VO.gt (v := .bool (!rv_5408)) (t_not rfl rfl rfl) rfl rfl rfl rfl (VO.t (v := .bool (!rv_5408)) (t_pick (b := true) rfl rfl (fun _ => rfl) (fun h => by cases h)) rfl rfl (VO.t (v := .bool (!rv_5408)) (t_assign rfl rfl) rfl rfl (VO.nil (thenQ_normal (VW.subK (.c 4 rfl .n) rfl (VW.hsub (A := hq [] []) (hq_sub (.cons _ .slnil) .slnil) (VW.ret (blockQ_ret (thenQ_ret ?_)))))))))
              have h := Option.some.inj h
              subst h
              exact ⟨.inr rfl, rfl, _, .bool (!rv_5408), hq [] [], rfl, VLe.refl _, hq_sub .slnil .slnil, rfl, rfl⟩
            · replace h := iteF h hc_5406
              refine VO.gskip rfl rfl rfl rfl rfl (VO.gskip rfl rfl rfl rfl rfl (VO.gskip rfl rfl rfl rfl rfl (VO.gskip rfl rfl rfl rfl rfl (VO.gskip rfl rfl rfl rfl rfl (VO.gskip rfl rfl rfl rfl rfl (VO.gskip rfl rfl rfl rfl rfl (VO.t (v := .bool false) (t_pick (b := false) rfl rfl (fun h => by cases h) (fun _ => (fun _ _ => rfl))) rfl rfl (VO.t (v := .bool false) (t_assign rfl rfl) rfl rfl (VO.nil ?_)))))))))
              refine thenQ_normal (VW.subK (.c 4 rfl .n) rfl (VW.hsub (A := hq [] []) (hq_sub (.cons _ .slnil) .slnil) (VW.ret (blockQ_ret (thenQ_ret ?_)))))
              have h := Option.some.inj h
              subst h
              exact ⟨.inr rfl, rfl, _, .bool false, hq [] [], rfl, VLe.refl _, hq_sub .slnil .slnil, rfl, rfl⟩
          · replace h := iteF h hc_5402
            refine VW.seq (VW.region (VO.t (v := .bool (a0.Op == 5)) (t_cmp rfl rfl rfl (fun _ _ => rfl) rfl) rfl rfl (VO.t (v := .bool (a0.Op == 5)) (t_assign rfl rfl) rfl rfl (VO.nil (thenQ_normal (VW.subK (.c 1 rfl (.c 2 rfl (.c 71 rfl .n))) rfl ?_))))))
            refine VW.cond (b := (a0.Op == 5)) rfl (fun hc_5410 => ?_) (fun hc_5410 => ?_)
            · replace h := iteT h hc_5410
              refine VW.seq (VW.region (VO.t (v := .ptr ob_5325 3) (t_fieldAddr_ptr rfl fi36_3 rfl rfl) rfl rfl (VO.r (v := .sl .fz (a0.Kids.map Node.c)) (r_load_q (i := 0) rfl sz34 rfl rfl rfl) rfl rfl ?_)))
              obtain ⟨c_5411, hc_5411, h⟩ := obind h
              refine VO.t (v := .vptr [.int .i64 c_5411.Op, .int .i64 c_5411.Lo, .int .i64 c_5411.Hi, .sl .fz (c_5411.Kids.map Node.c)]) (t_indexAddr rfl sl34 rfl (fun _ _ => rfl) (getI_some hc_5411).1 (map_get (getI_some hc_5411).2 (Node.c_eq c_5411)) rfl) rfl rfl (VO.r (v := .agg [.int .i64 c_5411.Op, .int .i64 c_5411.Lo, .int .i64 c_5411.Hi, .sl .fz (c_5411.Kids.map Node.c)]) (r_load_v rfl sz36 rfl rfl) rfl rfl (VO.t (t_move rfl rfl) rfl rfl ?_))
              obtain ⟨rv_5412, hx_5413, h⟩ := obind h
              refine VO.w (fun v H' => .bool rv_5412 = v ∧ H' = hq ([[(ob_5325, .cells [.int .i64 a0.Op, .int .i64 a0.Lo, .int .i64 a0.Hi, .sl .fz (a0.Kids.map Node.c)])]]) []) (w_call_q (sa := []) (sg := [[(ob_5325, .cells [.int .i64 a0.Op, .int .i64 a0.Lo, .int .i64 a0.Hi, .sl .fz (a0.Kids.map Node.c)])]]) (tks := []) rfl fn25 rfl ⟨_, _, rfl, rfl, _, _, rfl, rfl, rfl⟩ (ih_ref03_Holds _ _ hx_5413) (by rintro v H' ⟨rfl, rfl⟩; exact ⟨[], rfl, rfl, rfl⟩)) rfl rfl ?_
              rintro _ _ ⟨rfl, rfl⟩
              refine VO.t (v := .bool rv_5412) (t_assign rfl rfl) rfl rfl (VO.nil (thenQ_normal (VW.subK (.c 4 rfl .n) rfl (VW.hsub (A := hq [] []) (hq_sub (.cons _ .slnil) .slnil) (VW.ret (blockQ_ret (thenQ_ret ?_)))))))
              have h := Option.some.inj h
              subst h
              exact ⟨.inr rfl, rfl, _, .bool rv_5412, hq [] [], rfl, VLe.refl _, hq_sub .slnil .slnil, rfl, rfl⟩
            · replace h := iteF h hc_5410
              refine VW.skip (blockQ_normal (thenQ_normal (VW.subK (.c 1 rfl .n) rfl (VW.hsub (A := hq [] []) (hq_sub (.cons _ .slnil) .slnil) (VW.seq (VW.region (VO.t (t_move rfl rfl) rfl rfl (VO.t (v := .bool (decide (a1 ≥ (-1000000000000000)))) (t_cmp rfl rfl rfl (fun _ _ => rfl) rfl) rfl rfl (VO.t (t_move rfl rfl) rfl rfl ?_)))))))))
              refine VO.caseB (d := 81) (b := (decide (a1 ≥ (-1000000000000000)))) rfl (fun hc_5414 => ?_) (fun hc_5414 => ?_)
              · replace h := iteT h hc_5414
                refine VO.gt (v := .int .i64 a1) (t_move rfl rfl) rfl rfl rfl rfl (VO.gt (v := .bool (decide (a1 ≤ 1000000000000000))) (t_cmp rfl rfl rfl (fun _ _ => rfl) rfl) rfl rfl rfl rfl (VO.t (v := .bool (decide (a1 ≤ 1000000000000000))) (t_pick (b := true) rfl rfl (fun _ => rfl) (fun h => by cases h)) rfl rfl (VO.t (v := .bool (decide (a1 ≤ 1000000000000000))) (t_assign rfl rfl) rfl rfl (VO.nil (thenQ_normal (VW.subK (.c 4 rfl .n) rfl (VW.ret ?_)))))))
                have h := Option.some.inj h
                subst h
                exact ⟨.inr rfl, rfl, _, .bool (decide (a1 ≤ 1000000000000000)), hq [] [], rfl, VLe.refl _, hq_sub .slnil .slnil, rfl, rfl⟩
              · replace h := iteF h hc_5414
                refine VO.gskip rfl rfl rfl rfl rfl (VO.gskip rfl rfl rfl rfl rfl (VO.t (v := .bool false) (t_pick (b := false) rfl rfl (fun h => by cases h) (fun _ => (fun _ _ => rfl))) rfl rfl (VO.t (v := .bool false) (t_assign rfl rfl) rfl rfl (VO.nil (thenQ_normal (VW.subK (.c 4 rfl .n) rfl (VW.ret ?_)))))))
                have h := Option.some.inj h
                subst h
                exact ⟨.inr rfl, rfl, _, .bool false, hq [] [], rfl, VLe.refl _, hq_sub .slnil .slnil, rfl, rfl⟩
  · intro _ _ ih_ref03_Holds ih_ref03_Holds_l1 a0 i_5389 o h Q ob_5325 hx0 hx1
    refine VW.seq (VW.seq (VW.region (VO.t (t_move rfl rfl) rfl rfl (VO.t (v := .ptr ob_5325 3) (t_fieldAddr_ptr rfl fi36_3 rfl rfl) rfl rfl (VO.r (v := .sl .fz (a0.Kids.map Node.c)) (r_load_q (i := 0) rfl sz34 rfl rfl rfl) rfl rfl (VO.t (v := .int .i64 (a0.Kids.length : Int)) (t_len rfl ⟨_, Try.underlying34⟩ rfl (by rw [List.length_map])) rfl rfl (VO.t (v := .bool (decide (i_5389 < (a0.Kids.length : Int)))) (t_cmp rfl rfl rfl rfl rfl) rfl rfl (VO.nil (thenQ_normal ?_)))))))))
    refine VW.subK (.c 1 rfl (.c 2 rfl (.c 6 rfl (.c 43 rfl .n)))) rfl ?_
    refine VW.cond (b := (decide (i_5389 < (a0.Kids.length : Int)))) rfl (fun hc_5395 => ?_) (fun hc_5395 => ?_)
    · replace h := iteT h hc_5395
      refine VW.skip (thenQ_normal (VW.subK (.c 1 rfl (.c 2 rfl (.c 6 rfl .n))) rfl (VW.seq (VW.block (VW.seq (VW.region (VO.t (v := .ptr ob_5325 3) (t_fieldAddr_ptr rfl fi36_3 rfl rfl) rfl rfl (VO.r (v := .sl .fz (a0.Kids.map Node.c)) (r_load_q (i := 0) rfl sz34 rfl rfl rfl) rfl rfl (VO.t (t_move rfl rfl) rfl rfl ?_)))))))))
      obtain ⟨c_5396, hc_5396, h⟩ := obind h
      refine VO.t (v := .vptr [.int .i64 c_5396.Op, .int .i64 c_5396.Lo, .int .i64 c_5396.Hi, .sl .fz (c_5396.Kids.map Node.c)]) (t_indexAddr rfl sl34 rfl rfl (getI_some hc_5396).1 (map_get (getI_some hc_5396).2 (Node.c_eq c_5396)) rfl) rfl rfl (VO.r (v := .agg [.int .i64 c_5396.Op, .int .i64 c_5396.Lo, .int .i64 c_5396.Hi, .sl .fz (c_5396.Kids.map Node.c)]) (r_load_v rfl sz36 rfl rfl) rfl rfl (VO.t (t_move rfl rfl) rfl rfl ?_))
      obtain ⟨rv_5397, hx_5398, h⟩ := obind h
      refine VO.w (fun v H' => .bool rv_5397 = v ∧ H' = hq ([[(ob_5325, .cells [.int .i64 a0.Op, .int .i64 a0.Lo, .int .i64 a0.Hi, .sl .fz (a0.Kids.map Node.c)])]]) []) (w_call_q (sa := []) (sg := [[(ob_5325, .cells [.int .i64 a0.Op, .int .i64 a0.Lo, .int .i64 a0.Hi, .sl .fz (a0.Kids.map Node.c)])]]) (tks := []) rfl fn25 rfl ⟨_, _, rfl, rfl, _, _, rfl, rfl, rfl⟩ (ih_ref03_Holds _ _ hx_5398) (by rintro v H' ⟨rfl, rfl⟩; exact ⟨[], rfl, rfl, rfl⟩)) rfl rfl ?_
      rintro _ _ ⟨rfl, rfl⟩
      refine VO.t (v := .bool (!rv_5397)) (t_not rfl rfl rfl) rfl rfl (VO.nil (thenQ_normal (VW.subK (.c 1 rfl (.c 2 rfl (.c 6 rfl (.c 53 rfl .n)))) rfl ?_)))
      refine VW.cond (b := (!rv_5397)) rfl (fun hc_5399 => ?_) (fun hc_5399 => ?_)
      · replace h := iteT h hc_5399
        refine VW.seq (VW.region (VO.t (v := .bool false) (t_assign rfl (fun _ _ => rfl)) rfl rfl (VO.nil (thenQ_normal (VW.subK (.c 4 rfl .n) rfl (VW.hsub (A := hq [] []) (hq_sub (.cons _ .slnil) .slnil) (VW.subK (.c 4 rfl .n) rfl (VW.ret (blockQ_ret ?_)))))))))
        refine thenQ_ret (thenQ_ret ?_)
        have h := Option.some.inj h
        subst h
        exact hx1  rfl
      · replace h := iteF h hc_5399
        refine VW.skip (blockQ_normal (thenQ_normal (VW.subK (.c 1 rfl (.c 2 rfl (.c 6 rfl .n))) rfl (VW.region (VO.t (t_move rfl rfl) rfl rfl (VO.t (v := .int .i64 (w64 (i_5389 + 1))) (t_add rfl rfl (fun _ _ => rfl) rfl) rfl rfl (VO.t (v := .int .i64 (w64 (i_5389 + 1))) (t_assign rfl rfl) rfl rfl (VO.nil (thenQ_normal (VL.round ?_))))))))))
        refine VW.subK (.c 1 rfl (.c 2 rfl (.c 6 rfl .n))) rfl ?_
        exact ih_ref03_Holds_l1 _ _ _ h _ ob_5325 hx0 hx1
    · replace h := iteF h hc_5395
      refine VW.subN (t' := []) trivial rfl (VW.hsub (A := hq [] []) (hq_sub (.cons _ .slnil) .slnil) (VW.exit (thenQ_exit (thenQ_exit ?_))))
      have h := Option.some.inj h
      subst h
      exact hx0  rfl

theorem ref03_put.l0_ok (a0 : List Int) (a1 : Int) {Q : Exit → Env → HH → Prop} :
    ∀ (out_5536 : List Int) (done_5539 : Bool) (i_5540 : Int) (o : (List Int × Bool)), PL.ref03_put.l0 a0 a1 out_5536 done_5539 i_5540 = some o →
    ∀ (tk_5537 : Tok) (hg_5538 : Tok.grow tk_5537 1 (out_5536.map (cInt .i64))) (hx0 : ∀ (out_5573 : List Int) (done_5576 : Bool) (tk_5574 : Tok), (out_5573, done_5576) = o → Tok.grow tk_5574 1 (out_5573.map (cInt .i64)) → Q (.exit 0) ⟨[(1, .int .i64 a1), (5, .sl tk_5574 (out_5573.map (cInt .i64))), (6, .bool done_5576)], []⟩ (hq [] ([tk_5574]))), VW Try.prog 48 (codeAt [1, 1, 1, 0, 1, 0, 0] (bodyOf Try.f57)) (thenQ (VL Try.prog 48 (codeAt [1, 1, 1, 0, 1, 0, 0] (bodyOf Try.f57)) Q) Q) ⟨[(0, .sl .fz (a0.map (cInt .i64))), (1, .int .i64 a1), (5, .sl tk_5537 (out_5536.map (cInt .i64))), (6, .bool done_5539), (7, .int .i64 i_5540)], []⟩ (hq [] ([tk_5537])) := by
  refine PL.ref03_put.l0.partial_correctness a0 a1 (motive := fun out_5536 done_5539 i_5540 o => ∀ (tk_5537 : Tok) (hg_5538 : Tok.grow tk_5537 1 (out_5536.map (cInt .i64))) (hx0 : ∀ (out_5573 : List Int) (done_5576 : Bool) (tk_5574 : Tok), (out_5573, done_5576) = o → Tok.grow tk_5574 1 (out_5573.map (cInt .i64)) → Q (.exit 0) ⟨[(1, .int .i64 a1), (5, .sl tk_5574 (out_5573.map (cInt .i64))), (6, .bool done_5576)], []⟩ (hq [] ([tk_5574]))), VW Try.prog 48 (codeAt [1, 1, 1, 0, 1, 0, 0] (bodyOf Try.f57)) (thenQ (VL Try.prog 48 (codeAt [1, 1, 1, 0, 1, 0, 0] (bodyOf Try.f57)) Q) Q) ⟨[(0, .sl .fz (a0.map (cInt .i64))), (1, .int .i64 a1), (5, .sl tk_5537 (out_5536.map (cInt .i64))), (6, .bool done_5539), (7, .int .i64 i_5540)], []⟩ (hq [] ([tk_5537]))) ?_
  intro _ ih out_5536 done_5539 i_5540 o h tk_5537 hg_5538 hx0
  refine VW.seq (VW.seq (VW.region (VO.t (t_move rfl rfl) rfl rfl (VO.t (t_move rfl rfl) rfl rfl (VO.t (v := .int .i64 (a0.length : Int)) (t_len rfl ⟨_, Try.underlying77⟩ rfl (by rw [List.length_map])) rfl rfl (VO.t (v := .bool (decide (i_5540 < (a0.length : Int)))) (t_cmp rfl rfl rfl rfl rfl) rfl rfl (VO.nil (thenQ_normal (VW.subK (.c 0 rfl (.c 1 rfl (.c 5 rfl (.c 6 rfl (.c 7 rfl (.c 11 rfl .n)))))) rfl ?_)))))))))
  refine VW.cond (b := (decide (i_5540 < (a0.length : Int)))) rfl (fun hc_5577 => ?_) (fun hc_5577 => ?_)
  · replace h := iteT h hc_5577
    refine VW.skip (thenQ_normal (VW.subK (.c 0 rfl (.c 1 rfl (.c 5 rfl (.c 6 rfl (.c 7 rfl .n))))) rfl (VW.seq (VW.block (VW.seq (VW.seq ?_))))))
    obtain ⟨o_5583, h, hx_5581⟩ := obind h
    refine VW.joinQ (E := Bool) (I := fun x_5580 => x_5580 = o_5583 ∧ True) (env' := fun x_5580 => ⟨[(0, .sl .fz (a0.map (cInt .i64))), (1, .int .i64 a1), (5, .sl tk_5537 (out_5536.map (cInt .i64))), (6, .bool done_5539), (7, .int .i64 i_5540), (23, .bool x_5580)], []⟩) (H' := fun x_5580 => hq [] ([tk_5537])) ?_ (fun J_5582 => ?_)
    · rintro x_5580 ⟨ho_, _⟩
      subst ho_
      replace h := hx_5581
      clear hx_5581
      try dsimp only at h
      show VW _ _ _ _ ⟨[(0, .sl .fz (a0.map (cInt .i64))), (1, .int .i64 a1), (5, .sl tk_5537 (out_5536.map (cInt .i64))), (6, .bool done_5539), (7, .int .i64 i_5540), (23, .bool x_5580)], []⟩ (hq [] ([tk_5537]))
      obtain ⟨o_5596, h, hx_5594⟩ := obind h
      refine VW.joinQ (E := List Int × Bool × Tok) (I := fun ⟨out_5590, done_5593, tk_5591⟩ => (out_5590, done_5593) = o_5596 ∧ Tok.grow tk_5591 1 (out_5590.map (cInt .i64)) ∧ True) (env' := fun ⟨out_5590, done_5593, tk_5591⟩ => ⟨[(0, .sl .fz (a0.map (cInt .i64))), (1, .int .i64 a1), (7, .int .i64 i_5540), (5, .sl tk_5591 (out_5590.map (cInt .i64))), (6, .bool done_5593)], []⟩) (H' := fun ⟨out_5590, done_5593, tk_5591⟩ => hq [] ([tk_5591])) ?_ (fun J_5595 => ?_)
      · rintro ⟨out_5590, done_5593, tk_5591⟩ ⟨ho_, hg_5592, _⟩
        subst ho_
        replace h := hx_5594
        clear hx_5594
        try dsimp only at h
        show VW _ _ _ _ ⟨[(0, .sl .fz (a0.map (cInt .i64))), (1, .int .i64 a1), (7, .int .i64 i_5540), (5, .sl tk_5591 (out_5590.map (cInt .i64))), (6, .bool done_5593)], []⟩ (hq [] ([tk_5591]))
        refine VW.region (VO.t (t_move rfl rfl) rfl rfl (VO.t (t_move rfl rfl) rfl rfl (VO.t (t_move rfl rfl) rfl rfl ?_)))
        obtain ⟨c_5597, hc_5597, h⟩ := obind h
        refine VO.t (v := .vptr [.int .i64 c_5597]) (t_indexAddr rfl sl77 rfl rfl (getI_some hc_5597).1 (map_get (getI_some hc_5597).2 rfl) rfl) rfl rfl (VO.r (v := .int .i64 c_5597) (r_load_v rfl sz3 rfl rfl) rfl rfl (VO.w (fun v H' => ∃ t_5598, .sl (.cap t_5598 1) (([c_5597]).map (cInt .i64)) = v ∧ H' = hq [] ([.cap t_5598 1, tk_5591])) (w_buildSlice (l := [[.int .i64 c_5597]]) rfl el77 ⟨rfl, _, _, rfl, rfl, rfl, rfl, rfl⟩ rfl (Nat.le_of_ble_eq_true rfl) (fun tk => ⟨tk, by simp only [List.map_cons, List.map_nil, cInt, cBool, cStr, cSl], rfl⟩)) rfl rfl ?_))
        rintro _ _ ⟨t_5598, rfl, rfl⟩
        obtain ⟨_, hr_5599, h⟩ := obind h
        refine VO.w (fun v H' => ∃ t_5600, .sl (.cap t_5600 1) ((out_5590 ++ ([c_5597])).map (cInt .i64)) = v ∧ H' = hq [] ([.cap t_5600 1, .cap t_5598 1])) (w_append (objs := List.flatten []) (tks := [.cap t_5598 1, tk_5591]) (i := 1) rfl el77 rfl rfl hg_5592 rfl (elemsOK_map (cInt_ok .i64) _) (by have := room_some hr_5599; simpa using this) (Nat.le_of_ble_eq_true rfl) (fun t => ⟨t, by simp only [List.map_append, List.map_nil, List.nil_append], rfl⟩)) rfl rfl ?_
        rintro _ _ ⟨t_5600, rfl, rfl⟩
        refine VO.t (v := .sl (.cap t_5600 1) ((out_5590 ++ ([c_5597])).map (cInt .i64))) (t_assign rfl rfl) rfl rfl (VO.nil (blockQ_normal (thenQ_normal (VW.subK (.c 0 rfl (.c 1 rfl (.c 7 rfl (.c 6 rfl (.c 5 rfl .n))))) rfl (VW.hsub (A := hq [] ([.cap t_5600 1])) (hq_sub .slnil (.cons_cons _ (.cons _ .slnil))) (VW.region (VO.t (t_move rfl rfl) rfl rfl (VO.t (v := .int .i64 (w64 (i_5540 + 1))) (t_add rfl rfl (fun _ _ => rfl) rfl) rfl rfl (VO.t (v := .int .i64 (w64 (i_5540 + 1))) (t_assign rfl rfl) rfl rfl ?_)))))))))
        refine VO.nil (thenQ_normal (VL.round ?_))
        refine VW.subK (.c 0 rfl (.c 1 rfl (.c 5 rfl (.c 6 rfl (.c 7 rfl .n))))) rfl ?_
        exact ih _ _ _ _ h (.cap t_5600 1) (.inr ⟨_, rfl⟩) hx0
      · refine VW.cond (b := x_5580) rfl (fun hc_5601 => ?_) (fun hc_5601 => ?_)
        · replace h := iteT h hc_5601
          refine VW.seq (VW.seq (VW.region (VO.t (t_move rfl rfl) rfl rfl (VO.t (t_move rfl rfl) rfl rfl (VO.t (t_move rfl rfl) rfl rfl ?_)))))
          obtain ⟨c_5602, hc_5602, h⟩ := obind h
          refine VO.t (v := .vptr [.int .i64 c_5602]) (t_indexAddr rfl sl77 rfl rfl (getI_some hc_5602).1 (map_get (getI_some hc_5602).2 rfl) rfl) rfl rfl (VO.r (v := .int .i64 c_5602) (r_load_v rfl sz3 rfl rfl) rfl rfl (VO.t (v := .bool (decide (a1 < c_5602))) (t_cmp rfl rfl rfl rfl rfl) rfl rfl (VO.nil (thenQ_normal (VW.subK (.c 0 rfl (.c 1 rfl (.c 5 rfl (.c 7 rfl (.c 29 rfl .n))))) rfl ?_)))))
          refine VW.cond (b := (decide (a1 < c_5602))) rfl (fun hc_5603 => ?_) (fun hc_5603 => ?_)
          · replace h := iteT h hc_5603
            refine VW.region (VO.t (t_move rfl rfl) rfl rfl (VO.t (t_move rfl rfl) rfl rfl (VO.w (fun v H' => ∃ t_5604, .sl (.cap t_5604 1) (([a1]).map (cInt .i64)) = v ∧ H' = hq [] ([.cap t_5604 1, tk_5537])) (w_buildSlice (l := [[.int .i64 a1]]) rfl el77 ⟨rfl, _, _, rfl, rfl, rfl, rfl, rfl⟩ rfl (Nat.le_of_ble_eq_true rfl) (fun tk => ⟨tk, by simp only [List.map_cons, List.map_nil, cInt, cBool, cStr, cSl], rfl⟩)) rfl rfl ?_)))
            rintro _ _ ⟨t_5604, rfl, rfl⟩
            obtain ⟨_, hr_5605, h⟩ := obind h
            refine VO.w (fun v H' => ∃ t_5606, .sl (.cap t_5606 1) ((out_5536 ++ ([a1])).map (cInt .i64)) = v ∧ H' = hq [] ([.cap t_5606 1, .cap t_5604 1])) (w_append (objs := List.flatten []) (tks := [.cap t_5604 1, tk_5537]) (i := 1) rfl el77 rfl rfl hg_5538 rfl (elemsOK_map (cInt_ok .i64) _) (by have := room_some hr_5605; simpa using this) (Nat.le_of_ble_eq_true rfl) (fun t => ⟨t, by simp only [List.map_append, List.map_nil, List.nil_append], rfl⟩)) rfl rfl ?_
            rintro _ _ ⟨t_5606, rfl, rfl⟩
            refine VO.t (v := .sl (.cap t_5606 1) ((out_5536 ++ ([a1])).map (cInt .i64))) (t_assign rfl rfl) rfl rfl (VO.nil (thenQ_normal (VW.subK (.c 0 rfl (.c 1 rfl (.c 7 rfl (.c 5 rfl .n)))) rfl (VW.hsub (A := hq [] ([.cap t_5606 1])) (hq_sub .slnil (.cons_cons _ (.cons _ .slnil))) (VW.region (VO.t (v := .bool true) (t_assign rfl (fun _ _ => rfl)) rfl rfl (VO.subK (.c 0 rfl (.c 1 rfl (.c 7 rfl (.c 5 rfl (.c 6 rfl .n))))) rfl (VO.nil ?_))))))))
            exact thenQ_normal (J_5595 ⟨out_5536 ++ ([a1]), true, (.cap t_5606 1)⟩ ⟨Option.some.inj h, (.inr ⟨_, rfl⟩), trivial⟩)
          · replace h := iteF h hc_5603
            refine VW.skip (thenQ_normal (VW.subK (.c 0 rfl (.c 1 rfl (.c 5 rfl (.c 7 rfl .n)))) rfl (VW.region (VO.t (v := .bool true) (t_assign rfl (fun _ _ => rfl)) rfl rfl (VO.subK (.c 0 rfl (.c 1 rfl (.c 7 rfl (.c 5 rfl (.c 6 rfl .n))))) rfl (VO.nil ?_))))))
            exact thenQ_normal (J_5595 ⟨out_5536, true, tk_5537⟩ ⟨Option.some.inj h, hg_5538, trivial⟩)
        · replace h := iteF h hc_5601
          refine VW.subK (.c 0 rfl (.c 1 rfl (.c 7 rfl (.c 5 rfl (.c 6 rfl .n))))) rfl (VW.skip ?_)
          exact thenQ_normal (J_5595 ⟨out_5536, done_5539, tk_5537⟩ ⟨Option.some.inj h, hg_5538, trivial⟩)
    · refine VW.region (VO.t (t_move rfl rfl) rfl rfl (VO.t (v := .bool (!done_5539)) (t_not rfl rfl rfl) rfl rfl (VO.t (t_move rfl rfl) rfl rfl ?_)))
      refine VO.caseB (d := 16) (b := (!done_5539)) rfl (fun hc_5607 => ?_) (fun hc_5607 => ?_)
      · replace h := iteT h hc_5607
        refine VO.gt (v := .int .i64 a1) (t_move rfl rfl) rfl rfl rfl rfl (VO.gt (v := .sl .fz (a0.map (cInt .i64))) (t_move rfl rfl) rfl rfl rfl rfl (VO.gt (v := .int .i64 i_5540) (t_move rfl rfl) rfl rfl rfl rfl ?_))
        obtain ⟨c_5608, hc_5608, h⟩ := obind h
        refine VO.gt (v := .vptr [.int .i64 c_5608]) (t_indexAddr rfl sl77 rfl rfl (getI_some hc_5608).1 (map_get (getI_some hc_5608).2 rfl) rfl) rfl rfl rfl rfl (VO.gr (v := .int .i64 c_5608) (r_load_v rfl sz3 rfl rfl) rfl rfl rfl rfl (VO.gt (v := .bool (decide (a1 ≤ c_5608))) (t_cmp rfl rfl rfl rfl rfl) rfl rfl rfl rfl (VO.t (v := .bool (decide (a1 ≤ c_5608))) (t_pick (b := true) rfl rfl (fun _ => rfl) (fun h => by cases h)) rfl rfl (VO.subK (.c 0 rfl (.c 1 rfl (.c 5 rfl (.c 6 rfl (.c 7 rfl (.c 23 rfl .n)))))) rfl (VO.nil ?_)))))
        exact thenQ_normal (J_5582 (decide (a1 ≤ c_5608)) ⟨Option.some.inj h, trivial⟩)
      · replace h := iteF h hc_5607
        refine VO.gskip rfl rfl rfl rfl rfl (VO.gskip rfl rfl rfl rfl rfl (VO.gskip rfl rfl rfl rfl rfl (VO.gskip rfl rfl rfl rfl rfl (VO.gskip rfl rfl rfl rfl rfl (VO.gskip rfl rfl rfl rfl rfl (VO.t (v := .bool false) (t_pick (b := false) rfl rfl (fun h => by cases h) (fun _ => (fun _ _ => rfl))) rfl rfl (VO.subK (.c 0 rfl (.c 1 rfl (.c 5 rfl (.c 6 rfl (.c 7 rfl (.c 23 rfl .n)))))) rfl (VO.nil ?_))))))))
        exact thenQ_normal (J_5582 false ⟨Option.some.inj h, trivial⟩)
  · replace h := iteF h hc_5577
    refine VW.subK (.c 1 rfl (.c 5 rfl (.c 6 rfl .n))) rfl (VW.exit (thenQ_exit (thenQ_exit ?_)))
    have h := Option.some.inj h
    subst h
    exact hx0 _ _ tk_5537 rfl hg_5538

theorem ref03_put_ok (a0 : List Int) (a1 : Int) (r : List Int) (h : PL.ref03_put a0 a1 = some r) :
    VCalls Try.prog 57 [.sl .fz (a0.map (cInt .i64)), .int .i64 a1] (hq [] []) (fun v H => .sl .fz (r.map (cInt .i64)) = v ∧ H = hq [] []) := by
  unfold PL.ref03_put at h
  refine VCalls.of_body 48 [4] Try.func57 rfl rfl rfl (Nat.le_of_ble_eq_true rfl) (VW.subK (.c 0 rfl (.c 1 rfl .n)) rfl (VW.seq (VW.region (VO.t (v := .sl .nl []) (t_assign rfl (fun _ _ => .inl ⟨rfl, .inl rfl⟩)) rfl rfl (VO.nil (thenQ_normal (VW.subK (.c 0 rfl (.c 1 rfl .n)) rfl (VW.seq (VW.region ?_)))))))))
  refine VO.t (v := .sl .nl []) (t_assign rfl (fun _ _ => .inl ⟨rfl, .inl rfl⟩)) rfl rfl (VO.nil (thenQ_normal (VW.seq (VW.region (VO.t (v := .bool false) (t_assign rfl (fun _ _ => rfl)) rfl rfl (VO.nil (thenQ_normal (VW.seq (VW.seq ?_)))))))))
  refine VW.region (VO.t (v := .int .i64 0) (t_assign rfl (fun _ _ => rfl)) rfl rfl (VO.nil (thenQ_normal (VW.block (VW.subK (.c 0 rfl (.c 1 rfl (.c 5 rfl (.c 6 rfl (.c 7 rfl .n))))) rfl (VW.eqv (A := hq [] ([.nl])) (.refl _) ?_))))))
  obtain ⟨o_5609, hx_5610, h⟩ := obind h
  refine VW.loopL (ref03_put.l0_ok a0 a1 _ _ _ _ hx_5610 .nl (.inl ⟨rfl, rfl⟩) ?_)
  · intro out_5573 done_5576 tk_5574 ho_ hg_5575
    subst ho_
    try dsimp only at h
    refine blockQ_hit (thenQ_normal (VW.seq (VW.seq (VW.region (VO.t (t_move rfl rfl) rfl rfl (VO.t (v := .bool (!done_5576)) (t_not rfl rfl rfl) rfl rfl (VO.nil (thenQ_normal (VW.subK (.c 1 rfl (.c 5 rfl (.c 42 rfl .n))) rfl ?_)))))))))
    obtain ⟨o_5620, h, hx_5618⟩ := obind h
    refine VW.joinQ (E := List Int × Tok) (I := fun ⟨out_5615, tk_5616⟩ => out_5615 = o_5620 ∧ Tok.grow tk_5616 1 (out_5615.map (cInt .i64)) ∧ True) (env' := fun ⟨out_5615, tk_5616⟩ => ⟨[(5, .sl tk_5616 (out_5615.map (cInt .i64)))], []⟩) (H' := fun ⟨out_5615, tk_5616⟩ => hq [] ([tk_5616])) ?_ (fun J_5619 => ?_)
    · rintro ⟨out_5615, tk_5616⟩ ⟨ho_, hg_5617, _⟩
      subst ho_
      replace h := hx_5618
      clear hx_5618
      try dsimp only at h
      show VW _ _ _ _ ⟨[(5, .sl tk_5616 (out_5615.map (cInt .i64)))], []⟩ (hq [] ([tk_5616]))
      refine VW.seq (VW.region (VO.t (t_move rfl rfl) rfl rfl (VO.t (v := .sl tk_5616 (out_5615.map (cInt .i64))) (t_assign rfl rfl) rfl rfl (VO.nil (thenQ_normal (VW.subK (.c 4 rfl .n) rfl (VW.ret ?_)))))))
      have h := Option.some.inj h
      subst h
      exact ⟨.inr rfl, rfl, _, .sl .fz (out_5615.map (cInt .i64)), hq [] [], rfl, VLe.sl _ _, hq_sub .slnil (.cons _ .slnil), rfl, rfl⟩
    · refine VW.cond (b := (!done_5576)) rfl (fun hc_5621 => ?_) (fun hc_5621 => ?_)
      · replace h := iteT h hc_5621
        refine VW.region (VO.t (t_move rfl rfl) rfl rfl (VO.t (t_move rfl rfl) rfl rfl (VO.w (fun v H' => ∃ t_5622, .sl (.cap t_5622 1) (([a1]).map (cInt .i64)) = v ∧ H' = hq [] ([.cap t_5622 1, tk_5574])) (w_buildSlice (l := [[.int .i64 a1]]) rfl el77 ⟨rfl, _, _, rfl, rfl, rfl, rfl, rfl⟩ rfl (Nat.le_of_ble_eq_true rfl) (fun tk => ⟨tk, by simp only [List.map_cons, List.map_nil, cInt, cBool, cStr, cSl], rfl⟩)) rfl rfl ?_)))
        rintro _ _ ⟨t_5622, rfl, rfl⟩
        obtain ⟨_, hr_5623, h⟩ := obind h
        refine VO.w (fun v H' => ∃ t_5624, .sl (.cap t_5624 1) ((out_5573 ++ ([a1])).map (cInt .i64)) = v ∧ H' = hq [] ([.cap t_5624 1, .cap t_5622 1])) (w_append (objs := List.flatten []) (tks := [.cap t_5622 1, tk_5574]) (i := 1) rfl el77 rfl rfl hg_5575 rfl (elemsOK_map (cInt_ok .i64) _) (by have := room_some hr_5623; simpa using this) (Nat.le_of_ble_eq_true rfl) (fun t => ⟨t, by simp only [List.map_append, List.map_nil, List.nil_append], rfl⟩)) rfl rfl ?_
        rintro _ _ ⟨t_5624, rfl, rfl⟩
        refine VO.t (v := .sl (.cap t_5624 1) ((out_5573 ++ ([a1])).map (cInt .i64))) (t_assign rfl rfl) rfl rfl (VO.subK (.c 5 rfl .n) rfl (VO.hsub (A := hq [] ([.cap t_5624 1])) (hq_sub .slnil (.cons_cons _ (.cons _ .slnil))) (VO.nil ?_)))
        exact thenQ_normal (J_5619 ⟨out_5573 ++ ([a1]), (.cap t_5624 1)⟩ ⟨Option.some.inj h, (.inr ⟨_, rfl⟩), trivial⟩)
      · replace h := iteF h hc_5621
        refine VW.subK (.c 5 rfl .n) rfl (VW.skip ?_)
        exact thenQ_normal (J_5619 ⟨out_5573, tk_5574⟩ ⟨Option.some.inj h, hg_5575, trivial⟩)

theorem ref03_places_ok (a0 : Node) (a1 : List Int) (r : List Int) (h : PL.ref03_places a0 a1 = some r) :
    VCalls Try.prog 58 [.agg [.int .i64 a0.Op, .int .i64 a0.Lo, .int .i64 a0.Hi, .sl .fz (a0.Kids.map Node.c)], .sl .fz (a1.map (cInt .i64))] (hq [] []) (fun v H => .sl .fz (r.map (cInt .i64)) = v ∧ H = hq [] []) := by
  revert h
  refine (PL.ref03_places.l0.mutual_partial_correctness (motive_1 := fun a0 l_5656 i_5657 o => ∀ (Q : Exit → Env → HH → Prop) (ob_5625 : Nat) (hx0 : ∀ (l_5662 : List Int), l_5662 = o → Q (.exit 0) ⟨[(1, .sl .fz (l_5662.map (cInt .i64)))], []⟩ (hq [] [])), VW Try.prog 33 (codeAt [1, 1, 0, 1, 0, 0] (bodyOf Try.f58)) (thenQ (VL Try.prog 33 (codeAt [1, 1, 0, 1, 0, 0] (bodyOf Try.f58)) Q) Q) ⟨[(2, .ptr ob_5625 0), (1, .sl .fz (l_5656.map (cInt .i64))), (5, .int .i64 i_5657)], []⟩ (hq ([[(ob_5625, .cells [.int .i64 a0.Op, .int .i64 a0.Lo, .int .i64 a0.Hi, .sl .fz (a0.Kids.map Node.c)])]]) [])) (motive_2 := fun a0 a1 r => VCalls Try.prog 58 [.agg [.int .i64 a0.Op, .int .i64 a0.Lo, .int .i64 a0.Hi, .sl .fz (a0.Kids.map Node.c)], .sl .fz (a1.map (cInt .i64))] (hq [] []) (fun v H => .sl .fz (r.map (cInt .i64)) = v ∧ H = hq [] [])) ?_ ?_).2 a0 a1 r
  · intro _ _ ih_ref03_places_l0 ih_ref03_places a0 l_5656 i_5657 o h Q ob_5625 hx0
    refine VW.seq (VW.seq (VW.region (VO.t (t_move rfl rfl) rfl rfl (VO.t (v := .ptr ob_5625 3) (t_fieldAddr_ptr rfl fi36_3 rfl rfl) rfl rfl (VO.r (v := .sl .fz (a0.Kids.map Node.c)) (r_load_q (i := 0) rfl sz34 rfl rfl rfl) rfl rfl (VO.t (v := .int .i64 (a0.Kids.length : Int)) (t_len rfl ⟨_, Try.underlying34⟩ rfl (by rw [List.length_map])) rfl rfl (VO.t (v := .bool (decide (i_5657 < (a0.Kids.length : Int)))) (t_cmp rfl rfl rfl rfl rfl) rfl rfl (VO.nil (thenQ_normal ?_)))))))))
    refine VW.subK (.c 2 rfl (.c 1 rfl (.c 5 rfl (.c 22 rfl .n)))) rfl ?_
    refine VW.cond (b := (decide (i_5657 < (a0.Kids.length : Int)))) rfl (fun hc_5663 => ?_) (fun hc_5663 => ?_)
    · replace h := iteT h hc_5663
      refine VW.skip (thenQ_normal (VW.subK (.c 2 rfl (.c 1 rfl (.c 5 rfl .n))) rfl (VW.seq (VW.block (VW.region (VO.t (v := .ptr ob_5625 3) (t_fieldAddr_ptr rfl fi36_3 rfl rfl) rfl rfl (VO.r (v := .sl .fz (a0.Kids.map Node.c)) (r_load_q (i := 0) rfl sz34 rfl rfl rfl) rfl rfl (VO.t (t_move rfl rfl) rfl rfl ?_))))))))
      obtain ⟨c_5664, hc_5664, h⟩ := obind h
      refine VO.t (v := .vptr [.int .i64 c_5664.Op, .int .i64 c_5664.Lo, .int .i64 c_5664.Hi, .sl .fz (c_5664.Kids.map Node.c)]) (t_indexAddr rfl sl34 rfl rfl (getI_some hc_5664).1 (map_get (getI_some hc_5664).2 (Node.c_eq c_5664)) rfl) rfl rfl (VO.r (v := .agg [.int .i64 c_5664.Op, .int .i64 c_5664.Lo, .int .i64 c_5664.Hi, .sl .fz (c_5664.Kids.map Node.c)]) (r_load_v rfl sz36 rfl rfl) rfl rfl (VO.t (t_move rfl rfl) rfl rfl ?_))
      obtain ⟨rv_5665, hx_5666, h⟩ := obind h
      refine VO.w (fun v H' => .sl .fz (rv_5665.map (cInt .i64)) = v ∧ H' = hq ([[(ob_5625, .cells [.int .i64 a0.Op, .int .i64 a0.Lo, .int .i64 a0.Hi, .sl .fz (a0.Kids.map Node.c)])]]) []) (w_call_q (sa := []) (sg := [[(ob_5625, .cells [.int .i64 a0.Op, .int .i64 a0.Lo, .int .i64 a0.Hi, .sl .fz (a0.Kids.map Node.c)])]]) (tks := []) rfl fn58 rfl ⟨_, _, rfl, rfl, _, _, rfl, rfl, rfl⟩ (ih_ref03_places _ _ _ hx_5666) (by rintro v H' ⟨rfl, rfl⟩; exact ⟨[], rfl, rfl, rfl⟩)) rfl rfl ?_
      rintro _ _ ⟨rfl, rfl⟩
      refine VO.t (v := .sl .fz (rv_5665.map (cInt .i64))) (t_assign rfl rfl) rfl rfl (VO.nil (blockQ_normal (thenQ_normal (VW.subK (.c 2 rfl (.c 5 rfl (.c 1 rfl .n))) rfl (VW.region (VO.t (t_move rfl rfl) rfl rfl (VO.t (v := .int .i64 (w64 (i_5657 + 1))) (t_add rfl rfl (fun _ _ => rfl) rfl) rfl rfl (VO.t (v := .int .i64 (w64 (i_5657 + 1))) (t_assign rfl rfl) rfl rfl (VO.nil ?_)))))))))
      refine thenQ_normal (VL.round ?_)
      refine VW.subK (.c 2 rfl (.c 1 rfl (.c 5 rfl .n))) rfl ?_
      exact ih_ref03_places_l0 _ _ _ _ h _ ob_5625 hx0
    · replace h := iteF h hc_5663
      refine VW.subK (.c 1 rfl .n) rfl (VW.hsub (A := hq [] []) (hq_sub (.cons _ .slnil) .slnil) (VW.exit (thenQ_exit (thenQ_exit ?_))))
      have h := Option.some.inj h
      subst h
      exact hx0 _ rfl
  · intro _ ih_ref03_places_l0 a0 a1 r h 
    refine VCalls.of_body 33 [4] Try.func58 rfl rfl rfl (Nat.le_of_ble_eq_true rfl) (VW.subK (.c 0 rfl (.c 1 rfl .n)) rfl (VW.seq (VW.region (VO.w (fun v H' => ∃ ob_5625, .ptr ob_5625 0 = v ∧ H' = hq ([[(ob_5625, .cells [.int .i64 a0.Op, .int .i64 a0.Lo, .int .i64 a0.Hi, .sl .fz (a0.Kids.map Node.c)])]]) []) (w_box_q rfl rfl rfl (fun ob => ⟨ob, rfl, rfl⟩)) rfl rfl ?_))))
    rintro _ _ ⟨ob_5625, rfl, rfl⟩
    refine VO.t (v := .sl .nl []) (t_assign rfl (fun _ _ => .inl ⟨rfl, .inl rfl⟩)) rfl rfl (VO.nil (thenQ_normal (VW.subK (.c 1 rfl (.c 2 rfl .n)) rfl (VW.seq (VW.seq (VW.region (VO.t (v := .ptr ob_5625 0) (t_fieldAddr_ptr rfl fi36_0 rfl rfl) rfl rfl (VO.r (v := .int .i64 a0.Op) (r_load_q (i := 0) rfl sz3 rfl rfl rfl) rfl rfl (VO.t (v := .bool (a0.Op == 0)) (t_cmp rfl rfl rfl (fun _ _ => rfl) rfl) rfl rfl ?_)))))))))
    refine VO.nil (thenQ_normal (VW.subK (.c 1 rfl (.c 2 rfl (.c 8 rfl .n))) rfl ?_))
    obtain ⟨o_5634, h, hx_5632⟩ := obind h
    refine VW.joinQ (E := List Int) (I := fun l_5631 => l_5631 = o_5634 ∧ True) (env' := fun l_5631 => ⟨[(2, .ptr ob_5625 0), (1, .sl .fz (l_5631.map (cInt .i64)))], []⟩) (H' := fun l_5631 => hq ([[(ob_5625, .cells [.int .i64 a0.Op, .int .i64 a0.Lo, .int .i64 a0.Hi, .sl .fz (a0.Kids.map Node.c)])]]) []) ?_ (fun J_5633 => ?_)
    · rintro l_5631 ⟨ho_, _⟩
      subst ho_
      replace h := hx_5632
      clear hx_5632
      try dsimp only at h
      show VW _ _ _ _ ⟨[(2, .ptr ob_5625 0), (1, .sl .fz (l_5631.map (cInt .i64)))], []⟩ (hq ([[(ob_5625, .cells [.int .i64 a0.Op, .int .i64 a0.Lo, .int .i64 a0.Hi, .sl .fz (a0.Kids.map Node.c)])]]) [])
      refine VW.seq (VW.seq (VW.region (VO.t (v := .int .i64 0) (t_assign rfl (fun _ _ => rfl)) rfl rfl (VO.nil (thenQ_normal (VW.block (VW.subK (.c 2 rfl (.c 1 rfl (.c 5 rfl .n))) rfl ?_)))))))
      obtain ⟨o_5667, hx_5668, h⟩ := obind h
      refine VW.loopL (ih_ref03_places_l0 _ _ _ _ hx_5668 _ ob_5625 ?_)
      · intro l_5662 ho_
        subst ho_
        try dsimp only at h
        refine blockQ_hit (thenQ_normal (VW.seq (VW.region (VO.t (t_move rfl rfl) rfl rfl (VO.t (v := .sl .fz (l_5662.map (cInt .i64))) (t_assign rfl rfl) rfl rfl (VO.nil (thenQ_normal (VW.subK (.c 4 rfl .n) rfl (VW.ret ?_)))))))))
        have h := Option.some.inj h
        subst h
        exact ⟨.inr rfl, rfl, _, .sl .fz (l_5662.map (cInt .i64)), hq [] [], rfl, VLe.refl _, hq_sub .slnil .slnil, rfl, rfl⟩
    · refine VW.cond (b := (a0.Op == 0)) rfl (fun hc_5669 => ?_) (fun hc_5669 => ?_)
      · replace h := iteT h hc_5669
        refine VW.seq (VW.region (VO.t (t_move rfl rfl) rfl rfl (VO.t (v := .ptr ob_5625 1) (t_fieldAddr_ptr rfl fi36_1 rfl rfl) rfl rfl (VO.r (v := .int .i64 a0.Lo) (r_load_q (i := 0) rfl sz3 rfl rfl rfl) rfl rfl ?_))))
        obtain ⟨rv_5670, hx_5671, h⟩ := obind h
        refine VO.w (fun v H' => .sl .fz (rv_5670.map (cInt .i64)) = v ∧ H' = hq ([[(ob_5625, .cells [.int .i64 a0.Op, .int .i64 a0.Lo, .int .i64 a0.Hi, .sl .fz (a0.Kids.map Node.c)])]]) []) (w_call_q (sa := []) (sg := [[(ob_5625, .cells [.int .i64 a0.Op, .int .i64 a0.Lo, .int .i64 a0.Hi, .sl .fz (a0.Kids.map Node.c)])]]) (tks := []) rfl fn57 rfl ⟨_, _, rfl, rfl, _, _, rfl, rfl, rfl⟩ (ref03_put_ok _ _ _ hx_5671) (by rintro v H' ⟨rfl, rfl⟩; exact ⟨[], rfl, rfl, rfl⟩)) rfl rfl ?_
        rintro _ _ ⟨rfl, rfl⟩
        refine VO.t (v := .sl .fz (rv_5670.map (cInt .i64))) (t_assign rfl rfl) rfl rfl (VO.nil (thenQ_normal (VW.subK (.c 2 rfl (.c 1 rfl .n)) rfl (VW.region (VO.t (t_move rfl rfl) rfl rfl (VO.t (v := .ptr ob_5625 2) (t_fieldAddr_ptr rfl fi36_2 rfl rfl) rfl rfl (VO.r (v := .int .i64 a0.Hi) (r_load_q (i := 0) rfl sz3 rfl rfl rfl) rfl rfl (VO.t (v := .int .i64 (w64 (a0.Hi + 1))) (t_add rfl rfl (fun _ _ => rfl) rfl) rfl rfl ?_))))))))
        obtain ⟨rv_5672, hx_5673, h⟩ := obind h
        refine VO.w (fun v H' => .sl .fz (rv_5672.map (cInt .i64)) = v ∧ H' = hq ([[(ob_5625, .cells [.int .i64 a0.Op, .int .i64 a0.Lo, .int .i64 a0.Hi, .sl .fz (a0.Kids.map Node.c)])]]) []) (w_call_q (sa := []) (sg := [[(ob_5625, .cells [.int .i64 a0.Op, .int .i64 a0.Lo, .int .i64 a0.Hi, .sl .fz (a0.Kids.map Node.c)])]]) (tks := []) rfl fn57 rfl ⟨_, _, rfl, rfl, _, _, rfl, rfl, rfl⟩ (ref03_put_ok _ _ _ hx_5673) (by rintro v H' ⟨rfl, rfl⟩; exact ⟨[], rfl, rfl, rfl⟩)) rfl rfl ?_
        rintro _ _ ⟨rfl, rfl⟩
        refine VO.t (v := .sl .fz (rv_5672.map (cInt .i64))) (t_assign rfl rfl) rfl rfl (VO.subK (.c 2 rfl (.c 1 rfl .n)) rfl (VO.nil ?_))
        exact thenQ_normal (J_5633 rv_5672 ⟨Option.some.inj h, trivial⟩)
      · replace h := iteF h hc_5669
        refine VW.subK (.c 2 rfl (.c 1 rfl .n)) rfl (VW.skip ?_)
        exact thenQ_normal (J_5633 a1 ⟨Option.some.inj h, trivial⟩)

theorem ref03_set.l0_ok (a0 : Node) (rv_5680 : List Int) {Q : Exit → Env → HH → Prop} :
    ∀ (out_5762 : List Pr) (i_5764 : Int) (o : (List Pr)), PL.ref03_set.l0 a0 rv_5680 out_5762 i_5764 = some o →
    ∀ (ob_5674 : Nat) (vbu5763 : VV) (bbu5763 : Seg) (hbu5763 : Buf 2 (out_5762.map Pr.c) vbu5763 bbu5763) (hx0 : ∀ (out_5791 : List Pr) (vbu5792 : VV) (bbu5792 : Seg), out_5791 = o → Buf 2 (out_5791.map Pr.c) vbu5792 bbu5792 → Q (.exit 0) ⟨[(4, vbu5792)], []⟩ (hq ([bbu5792]) [])), VW Try.prog 69 (codeAt [1, 1, 1, 0, 1, 0, 0] (bodyOf Try.f49)) (thenQ (VL Try.prog 69 (codeAt [1, 1, 1, 0, 1, 0, 0] (bodyOf Try.f49)) Q) Q) ⟨[(1, .ptr ob_5674 0), (3, .sl .fz (rv_5680.map (cInt .i64))), (4, vbu5763), (5, .int .i64 i_5764)], []⟩ (hq ([[(ob_5674, .cells [.int .i64 a0.Op, .int .i64 a0.Lo, .int .i64 a0.Hi, .sl .fz (a0.Kids.map Node.c)])], bbu5763]) []) := by
  refine PL.ref03_set.l0.partial_correctness a0 rv_5680 (motive := fun out_5762 i_5764 o => ∀ (ob_5674 : Nat) (vbu5763 : VV) (bbu5763 : Seg) (hbu5763 : Buf 2 (out_5762.map Pr.c) vbu5763 bbu5763) (hx0 : ∀ (out_5791 : List Pr) (vbu5792 : VV) (bbu5792 : Seg), out_5791 = o → Buf 2 (out_5791.map Pr.c) vbu5792 bbu5792 → Q (.exit 0) ⟨[(4, vbu5792)], []⟩ (hq ([bbu5792]) [])), VW Try.prog 69 (codeAt [1, 1, 1, 0, 1, 0, 0] (bodyOf Try.f49)) (thenQ (VL Try.prog 69 (codeAt [1, 1, 1, 0, 1, 0, 0] (bodyOf Try.f49)) Q) Q) ⟨[(1, .ptr ob_5674 0), (3, .sl .fz (rv_5680.map (cInt .i64))), (4, vbu5763), (5, .int .i64 i_5764)], []⟩ (hq ([[(ob_5674, .cells [.int .i64 a0.Op, .int .i64 a0.Lo, .int .i64 a0.Hi, .sl .fz (a0.Kids.map Node.c)])], bbu5763]) [])) ?_
  intro _ ih out_5762 i_5764 o h ob_5674 vbu5763 bbu5763 hbu5763 hx0
  refine VW.seq (VW.seq (VW.region (VO.t (t_move rfl rfl) rfl rfl (VO.t (v := .int .i64 (w64 (i_5764 + 1))) (t_add rfl rfl (fun _ _ => rfl) rfl) rfl rfl (VO.t (t_move rfl rfl) rfl rfl (VO.t (v := .int .i64 (rv_5680.length : Int)) (t_len rfl ⟨_, Try.underlying77⟩ rfl (by rw [List.length_map])) rfl rfl (VO.t (v := .bool (decide ((w64 (i_5764 + 1)) < (rv_5680.length : Int)))) (t_cmp rfl rfl rfl rfl rfl) rfl rfl (VO.nil (thenQ_normal ?_)))))))))
  refine VW.subK (.c 1 rfl (.c 3 rfl (.c 4 rfl (.c 5 rfl (.c 15 rfl .n))))) rfl ?_
  refine VW.cond (b := (decide ((w64 (i_5764 + 1)) < (rv_5680.length : Int)))) rfl (fun hc_5793 => ?_) (fun hc_5793 => ?_)
  · replace h := iteT h hc_5793
    refine VW.skip (thenQ_normal (VW.subK (.c 1 rfl (.c 3 rfl (.c 4 rfl (.c 5 rfl .n)))) rfl (VW.seq (VW.block (VW.seq (VW.seq (VW.draw 7 mix rfl (VA.phase (g := 2) [0, 1, 2, 3, 4] 5 (VP.take (i := 0) (v := .agg [.int .i64 a0.Op, .int .i64 a0.Lo, .int .i64 a0.Hi, .sl .fz (a0.Kids.map Node.c)]) rfl (r_load_q (i := 0) rfl sz36 rfl rfl rfl) (.inl rfl) (by kernel_rfl) ?_)))))))))
    refine VP.take (i := 1) rfl (TOp.r (t_move rfl rfl)) (.inl rfl) (by kernel_rfl) (VP.take (i := 2) rfl (TOp.r (t_move rfl rfl)) (.inl rfl) (by kernel_rfl) ?_)
    obtain ⟨c_5794, hc_5794, h⟩ := obind h
    refine VP.take (i := 3) (v := .vptr [.int .i64 c_5794]) rfl (TOp.r (t_indexAddr rfl sl77 rfl rfl (getI_some hc_5794).1 (map_get (getI_some hc_5794).2 rfl) rfl)) (.inl rfl) (by kernel_rfl) (VP.take (i := 4) (v := .int .i64 c_5794) rfl (r_load_v rfl sz3 rfl rfl) (.inl rfl) (by kernel_rfl) (VP.done (by kernel_rfl) ?_))
    obtain ⟨rv_5795, hx_5796, h⟩ := obind h
    refine VA.w (i := 5) (fun v H' => .bool rv_5795 = v ∧ H' = hq ([[(ob_5674, .cells [.int .i64 a0.Op, .int .i64 a0.Lo, .int .i64 a0.Hi, .sl .fz (a0.Kids.map Node.c)])], bbu5763]) []) rfl (w_call_q (sa := []) (sg := [[(ob_5674, .cells [.int .i64 a0.Op, .int .i64 a0.Lo, .int .i64 a0.Hi, .sl .fz (a0.Kids.map Node.c)])], bbu5763]) (tks := []) rfl fn25 rfl ⟨_, _, rfl, rfl, _, _, rfl, rfl, rfl⟩ (ref03_Holds_ok _ _ _ hx_5796) (by rintro v H' ⟨rfl, rfl⟩; exact ⟨[], rfl, rfl, rfl⟩)) (.inl rfl) (by kernel_rfl) rfl ?_
    rintro _ _ ⟨rfl, rfl⟩
    refine VA.t (i := 6) (v := .bool (!rv_5795)) rfl (t_not rfl rfl rfl) (.inl rfl) (by kernel_rfl) (VA.done (by kernel_rfl) (thenQ_normal (VW.subK (.c 1 rfl (.c 3 rfl (.c 4 rfl (.c 5 rfl (.c 24 rfl .n))))) rfl ?_)))
    refine VW.cond (b := (!rv_5795)) rfl (fun hc_5797 => ?_) (fun hc_5797 => ?_)
    · replace h := iteT h hc_5797
      refine VW.exit (thenQ_exit (blockQ_hit (thenQ_normal (VW.subK (.c 1 rfl (.c 3 rfl (.c 4 rfl (.c 5 rfl .n)))) rfl (VW.region (VO.t (t_move rfl rfl) rfl rfl (VO.t (v := .int .i64 (w64 (i_5764 + 1))) (t_add rfl rfl (fun _ _ => rfl) rfl) rfl rfl (VO.t (v := .int .i64 (w64 (i_5764 + 1))) (t_assign rfl rfl) rfl rfl (VO.nil ?_)))))))))
      refine thenQ_normal (VL.round ?_)
      refine VW.subK (.c 1 rfl (.c 3 rfl (.c 4 rfl (.c 5 rfl .n)))) rfl ?_
      exact ih _ _ _ h ob_5674 vbu5763 bbu5763 hbu5763 hx0
    · replace h := iteF h hc_5797
      refine VW.skip (thenQ_normal (VW.subK (.c 1 rfl (.c 3 rfl (.c 4 rfl (.c 5 rfl .n)))) rfl (VW.seq (VW.region (VO.t (t_move rfl rfl) rfl rfl (VO.t (v := .int .i64 (out_5762.length : Int)) (t_len_buf rfl ⟨_, Try.underlying22⟩ rfl hbu5763 (by rw [List.length_map])) rfl rfl (VO.t (v := .int .i64 (out_5762.length : Int)) (t_assign rfl rfl) rfl rfl (VO.nil (thenQ_normal ?_)))))))))
      refine VW.subK (.c 1 rfl (.c 3 rfl (.c 4 rfl (.c 5 rfl (.c 6 rfl .n))))) rfl (VW.seq ?_)
      obtain ⟨o_5805, h, hx_5803⟩ := obind h
      refine VW.joinQ (E := Bool × VV × Seg) (I := fun ⟨x_5802, vbu5801, bbu5801⟩ => x_5802 = o_5805 ∧ Buf 2 (out_5762.map Pr.c) vbu5801 bbu5801 ∧ True) (env' := fun ⟨x_5802, vbu5801, bbu5801⟩ => ⟨[(1, .ptr ob_5674 0), (3, .sl .fz (rv_5680.map (cInt .i64))), (4, vbu5801), (5, .int .i64 i_5764), (6, .int .i64 (out_5762.length : Int)), (42, .bool x_5802)], []⟩) (H' := fun ⟨x_5802, vbu5801, bbu5801⟩ => hq ([[(ob_5674, .cells [.int .i64 a0.Op, .int .i64 a0.Lo, .int .i64 a0.Hi, .sl .fz (a0.Kids.map Node.c)])], bbu5801]) []) ?_ (fun J_5804 => ?_)
      · rintro ⟨x_5802, vbu5801, bbu5801⟩ ⟨ho_, hbu5801, _⟩
        subst ho_
        replace h := hx_5803
        clear hx_5803
        try dsimp only at h
        show VW _ _ _ _ ⟨[(1, .ptr ob_5674 0), (3, .sl .fz (rv_5680.map (cInt .i64))), (4, vbu5801), (5, .int .i64 i_5764), (6, .int .i64 (out_5762.length : Int)), (42, .bool x_5802)], []⟩ (hq ([[(ob_5674, .cells [.int .i64 a0.Op, .int .i64 a0.Lo, .int .i64 a0.Hi, .sl .fz (a0.Kids.map Node.c)])], bbu5801]) [])
        refine VW.cond (b := x_5802) rfl (fun hc_5806 => ?_) (fun hc_5806 => ?_)
        · replace h := iteT h hc_5806
          refine VW.draw 12 mix rfl (VA.phase (g := 1) [0, 1, 2, 3, 4, 5, 6, 7, 8, 9, 10] 11 (VP.take (i := 0) rfl (TOp.r (t_move rfl rfl)) (.inl rfl) (by kernel_rfl) (VP.take (i := 1) rfl (TOp.r (t_move rfl rfl)) (.inl rfl) (by kernel_rfl) (VP.take (i := 2) (v := .int .i64 (w64 ((out_5762.length : Int) - 1))) rfl (TOp.r (t_sub rfl rfl (fun _ _ => rfl) rfl)) (.inl rfl) (by kernel_rfl) (VP.take (i := 3) rfl (TOp.r (t_move rfl rfl)) (.inl rfl) (by kernel_rfl) (VP.take (i := 4) rfl (TOp.r (t_move rfl rfl)) (.inl rfl) (by kernel_rfl) (VP.take (i := 5) (v := .int .i64 (w64 (i_5764 + 1))) rfl (TOp.r (t_add rfl rfl (fun _ _ => rfl) rfl)) (.inl rfl) (by kernel_rfl) ?_)))))))
          obtain ⟨c_5807, hc_5807, h⟩ := obind h
          refine VP.take (i := 6) (v := .vptr [.int .i64 c_5807]) rfl (TOp.r (t_indexAddr rfl sl77 rfl rfl (getI_some hc_5807).1 (map_get (getI_some hc_5807).2 rfl) rfl)) (.inl rfl) (by kernel_rfl) (VP.take (i := 7) (v := .int .i64 c_5807) rfl (r_load_v rfl sz3 rfl rfl) (.inl rfl) (by kernel_rfl) (VP.take (i := 8) (v := .int .i64 (w64 (c_5807 - 1))) rfl (TOp.r (t_sub rfl rfl (fun _ _ => rfl) rfl)) (.inl rfl) (by kernel_rfl) ?_))
          obtain ⟨c_5808, hc_5808, h⟩ := obind h
          obtain ⟨ob_5809, cap_5809, len_5809, sl_5809, rfl, rfl, hE_5809, hl_5809, hc_5809, hs_5809⟩ := buf_at hbu5801 hc_5808
          refine VP.take (i := 9) (v := .ptr ob_5809 ((w64 ((out_5762.length : Int) - 1)).toNat * 2 + 0)) rfl (TOp.r (t_index_own rfl sl22 rfl rfl (getI_some hc_5808).1 (by rw [hl_5809]; exact getI_lt hc_5808) rfl)) (.inl rfl) (by kernel_rfl) (VP.take (i := 10) (v := .ptr ob_5809 ((w64 ((out_5762.length : Int) - 1)).toNat * 2 + 1)) rfl (TOp.r (t_indexAddr_parr rfl ar49 rfl (fun _ _ => rfl) (by decide) (by decide) rfl)) (.inl rfl) (by kernel_rfl) (VP.done (by kernel_rfl) (VA.w (i := 11) (fun v H' => .any = v ∧ H' = hq ([[(ob_5674, .cells [.int .i64 a0.Op, .int .i64 a0.Lo, .int .i64 a0.Hi, .sl .fz (a0.Kids.map Node.c)])], [(ob_5809, .cells (((out_5762.set (w64 ((out_5762.length : Int) - 1)).toNat (Pr.mk c_5808.x0 (w64 (c_5807 - 1)))).map Pr.c).flatten ++ sl_5809))]]) []) rfl (w_store_buf (n := 2) (f := 1) (j := 1) rfl sz3 rfl rfl rfl hE_5809 (map_get (getI_some hc_5808).2 (Pr.c_eq c_5808)) rfl rfl (Nat.le_of_ble_eq_true rfl) rfl (map_set (Pr.c_eq (Pr.mk c_5808.x0 (w64 (c_5807 - 1))))) ⟨rfl, rfl⟩) (.inl rfl) (by kernel_rfl) rfl ?_)))
          rintro _ _ ⟨rfl, rfl⟩
          have hl_5811 : len_5809 = (out_5762.set (w64 ((out_5762.length : Int) - 1)).toNat (Pr.mk c_5808.x0 (w64 (c_5807 - 1)))).length := by simp [hl_5809]
          refine VA.done (by kernel_rfl) (blockQ_normal (thenQ_normal (VW.subK (.c 1 rfl (.c 3 rfl (.c 4 rfl (.c 5 rfl .n)))) rfl (VW.region (VO.t (t_move rfl rfl) rfl rfl (VO.t (v := .int .i64 (w64 (i_5764 + 1))) (t_add rfl rfl (fun _ _ => rfl) rfl) rfl rfl (VO.t (v := .int .i64 (w64 (i_5764 + 1))) (t_assign rfl rfl) rfl rfl (VO.nil (thenQ_normal (VL.round ?_))))))))))
          refine VW.subK (.c 1 rfl (.c 3 rfl (.c 4 rfl (.c 5 rfl .n)))) rfl ?_
          exact ih _ _ _ h ob_5674 (.own ob_5809 cap_5809 len_5809) [(ob_5809, .cells (((out_5762.set (w64 ((out_5762.length : Int) - 1)).toNat (Pr.mk c_5808.x0 (w64 (c_5807 - 1)))).map Pr.c).flatten ++ sl_5809))] (Buf.own (n := 2) (l := (out_5762.set (w64 ((out_5762.length : Int) - 1)).toNat (Pr.mk c_5808.x0 (w64 (c_5807 - 1)))).map Pr.c) ob_5809 cap_5809 len_5809 sl_5809 (elemsOK_map Pr.c_ok _) (by simp [hl_5811]) hc_5809 hs_5809) hx0
        · replace h := iteF h hc_5806
          refine VW.draw 15 mix rfl (VA.t (i := 0) rfl (t_move rfl rfl) (.inl rfl) (by kernel_rfl) (VA.phase (g := 3) [1, 2, 3, 4, 5, 6, 7, 8, 9, 10, 11] 11 (VP.take (i := 1) rfl (TOp.r (t_move rfl rfl)) (.inl rfl) (by kernel_rfl) (VP.take (i := 2) rfl (TOp.r (t_move rfl rfl)) (.inl rfl) (by kernel_rfl) (VP.take (i := 3) (v := .vptr [.int .i64 c_5794]) rfl (TOp.r (t_indexAddr rfl sl77 rfl rfl (getI_some hc_5794).1 (map_get (getI_some hc_5794).2 rfl) rfl)) (.inl rfl) (by kernel_rfl) (VP.take (i := 4) (v := .int .i64 c_5794) rfl (r_load_v rfl sz3 rfl rfl) (.inl rfl) (by kernel_rfl) (VP.take (i := 5) rfl (TOp.r (t_move rfl rfl)) (.inl rfl) (by kernel_rfl) (VP.take (i := 6) rfl (TOp.r (t_move rfl rfl)) (.inl rfl) (by kernel_rfl) (VP.take (i := 7) (v := .int .i64 (w64 (i_5764 + 1))) rfl (TOp.r (t_add rfl rfl (fun _ _ => rfl) rfl)) (.inl rfl) (by kernel_rfl) ?_)))))))))
          obtain ⟨c_5812, hc_5812, h⟩ := obind h
          refine VP.take (i := 8) (v := .vptr [.int .i64 c_5812]) rfl (TOp.r (t_indexAddr rfl sl77 rfl rfl (getI_some hc_5812).1 (map_get (getI_some hc_5812).2 rfl) rfl)) (.inl rfl) (by kernel_rfl) (VP.take (i := 9) (v := .int .i64 c_5812) rfl (r_load_v rfl sz3 rfl rfl) (.inl rfl) (by kernel_rfl) (VP.take (i := 10) (v := .int .i64 (w64 (c_5812 - 1))) rfl (TOp.r (t_sub rfl rfl (fun _ _ => rfl) rfl)) (.inl rfl) (by kernel_rfl) (VP.take (i := 11) (v := .agg [.int .i64 c_5794, .int .i64 (w64 (c_5812 - 1))]) rfl (TOp.r (t_build_arr rfl av49 ⟨_, _, rfl, rfl, rfl, _, _, rfl, rfl, rfl, rfl⟩ rfl)) (.inl rfl) (by kernel_rfl) (VP.done (by kernel_rfl) (VA.w (i := 12) (fun v H' => ∃ t_5813, .sl (.cap t_5813 2) (([Pr.mk c_5794 (w64 (c_5812 - 1))]).map Pr.c) = v ∧ H' = hq ([[(ob_5674, .cells [.int .i64 a0.Op, .int .i64 a0.Lo, .int .i64 a0.Hi, .sl .fz (a0.Kids.map Node.c)])], bbu5801]) ([.cap t_5813 2])) rfl (w_buildSlice (l := [[.int .i64 c_5794, .int .i64 (w64 (c_5812 - 1))]]) rfl el22 ⟨rfl, _, _, rfl, rfl, rfl, rfl, rfl⟩ rfl (Nat.le_of_ble_eq_true rfl) (fun tk => ⟨tk, by simp only [List.map_cons, List.map_nil, Pr.c_eq], rfl⟩)) (.inl rfl) (by kernel_rfl) rfl ?_)))))
          rintro _ _ ⟨t_5813, rfl, rfl⟩
          obtain ⟨_, hr_5814, h⟩ := obind h
          refine VA.w (i := 13) (fun v H' => ∃ vbu_5815 bbu_5815, Buf 2 ((out_5762 ++ ([Pr.mk c_5794 (w64 (c_5812 - 1))])).map Pr.c) vbu_5815 bbu_5815 ∧ vbu_5815 = v ∧ H' = hq ([bbu_5815, [(ob_5674, .cells [.int .i64 a0.Op, .int .i64 a0.Lo, .int .i64 a0.Hi, .sl .fz (a0.Kids.map Node.c)])]]) ([.cap t_5813 2])) rfl (w_append_buf (i := 1) rfl el22 rfl rfl hbu5801 rfl (elemsOK_map Pr.c_ok _) (by have := room_some hr_5814; simpa using this) (Nat.le_of_ble_eq_true rfl) (fun v b hB => ⟨v, b, by simpa using hB, rfl, rfl⟩)) (.inl rfl) (by kernel_rfl) rfl ?_
          rintro _ _ ⟨vbu_5815, bbu_5815, hbu_5815, rfl, rfl⟩
          refine VA.t (i := 14) (v := vbu_5815) rfl (t_assign rfl rfl) (.inl rfl) (by kernel_rfl) (VA.done (by kernel_rfl) (blockQ_normal (thenQ_normal (VW.subK (.c 1 rfl (.c 3 rfl (.c 5 rfl (.c 4 rfl .n)))) rfl (VW.hsub (A := hq ([bbu_5815, [(ob_5674, .cells [.int .i64 a0.Op, .int .i64 a0.Lo, .int .i64 a0.Hi, .sl .fz (a0.Kids.map Node.c)])]]) []) (hq_sub (.cons_cons _ (.cons_cons _ .slnil)) (.cons _ .slnil)) (VW.region (VO.t (t_move rfl rfl) rfl rfl (VO.t (v := .int .i64 (w64 (i_5764 + 1))) (t_add rfl rfl (fun _ _ => rfl) rfl) rfl rfl (VO.t (v := .int .i64 (w64 (i_5764 + 1))) (t_assign rfl rfl) rfl rfl ?_)))))))))
          refine VO.nil (thenQ_normal (VL.round ?_))
          refine VW.subK (.c 1 rfl (.c 3 rfl (.c 4 rfl (.c 5 rfl .n)))) rfl (VW.frontS 0 rfl (VW.frontS 1 rfl ?_))
          exact ih _ _ _ h ob_5674 vbu_5815 bbu_5815 hbu_5815 hx0
      · refine VW.draw 16 mix rfl (VA.t (i := 0) rfl (t_move rfl rfl) (.inl rfl) (by kernel_rfl) (VA.t (i := 1) (v := .bool (decide ((out_5762.length : Int) > 0))) rfl (t_cmp rfl rfl rfl (fun _ _ => rfl) rfl) (.inl rfl) (by kernel_rfl) (VA.t (i := 2) rfl (t_move rfl rfl) (.inl rfl) (by kernel_rfl) ?_)))
        refine VA.caseB (d := 29) (b := (decide ((out_5762.length : Int) > 0))) rfl (fun hc_5816 => ?_) (fun hc_5816 => ?_)
        · replace h := iteT h hc_5816
          refine VA.phase (g := 0) [3, 4, 5, 6, 7, 8, 9, 10, 11, 12, 13, 14, 15] 13 (VP.take (i := 3) rfl (TOp.r (t_move rfl rfl)) (.inr ⟨_, _, _, rfl, rfl, rfl⟩) (by kernel_rfl) (VP.take (i := 4) rfl (TOp.r (t_move rfl rfl)) (.inr ⟨_, _, _, rfl, rfl, rfl⟩) (by kernel_rfl) (VP.take (i := 5) (v := .int .i64 (w64 ((out_5762.length : Int) - 1))) rfl (TOp.r (t_sub rfl rfl (fun _ _ => rfl) rfl)) (.inr ⟨_, _, _, rfl, rfl, rfl⟩) (by kernel_rfl) ?_)))
          obtain ⟨c_5817, hc_5817, h⟩ := obind h
          obtain ⟨ob_5818, cap_5818, len_5818, sl_5818, rfl, rfl, hE_5818, hl_5818, hc_5818, hs_5818⟩ := buf_at hbu5763 hc_5817
          refine VP.take (i := 6) (v := .ptr ob_5818 ((w64 ((out_5762.length : Int) - 1)).toNat * 2 + 0)) rfl (TOp.r (t_index_own rfl sl22 rfl rfl (getI_some hc_5817).1 (by rw [hl_5818]; exact getI_lt hc_5817) rfl)) (.inr ⟨_, _, _, rfl, rfl, rfl⟩) (by kernel_rfl) (VP.take (i := 7) (v := .ptr ob_5818 ((w64 ((out_5762.length : Int) - 1)).toNat * 2 + 1)) rfl (TOp.r (t_indexAddr_parr rfl ar49 rfl (fun _ _ => rfl) (by decide) (by decide) rfl)) (.inr ⟨_, _, _, rfl, rfl, rfl⟩) (by kernel_rfl) (VP.take (i := 8) (v := .int .i64 c_5817.x1) rfl (r_load_buf (n := 2) (f := 1) (j := 1) rfl sz3 rfl rfl hE_5818 (map_get (getI_some hc_5817).2 (Pr.c_eq c_5817)) (Nat.le_of_ble_eq_true rfl) (fun _ => rfl)) (.inr ⟨_, _, _, rfl, rfl, rfl⟩) (by kernel_rfl) (VP.take (i := 9) rfl (TOp.r (t_move rfl rfl)) (.inr ⟨_, _, _, rfl, rfl, rfl⟩) (by kernel_rfl) (VP.take (i := 10) rfl (TOp.r (t_move rfl rfl)) (.inr ⟨_, _, _, rfl, rfl, rfl⟩) (by kernel_rfl) (VP.take (i := 11) (v := .vptr [.int .i64 c_5794]) rfl (TOp.r (t_indexAddr rfl sl77 rfl rfl (getI_some hc_5794).1 (map_get (getI_some hc_5794).2 rfl) rfl)) (.inr ⟨_, _, _, rfl, rfl, rfl⟩) (by kernel_rfl) (VP.take (i := 12) (v := .int .i64 c_5794) rfl (r_load_v rfl sz3 rfl rfl) (.inr ⟨_, _, _, rfl, rfl, rfl⟩) (by kernel_rfl) (VP.take (i := 13) (v := .int .i64 (w64 (c_5794 - 1))) rfl (TOp.r (t_sub rfl rfl (fun _ _ => rfl) rfl)) (.inr ⟨_, _, _, rfl, rfl, rfl⟩) (by kernel_rfl) (VP.take (i := 14) (v := .bool (c_5817.x1 == (w64 (c_5794 - 1)))) rfl (TOp.r (t_cmp rfl rfl rfl rfl rfl)) (.inr ⟨_, _, _, rfl, rfl, rfl⟩) (by kernel_rfl) (VP.take (i := 15) (v := .bool (c_5817.x1 == (w64 (c_5794 - 1)))) rfl (TOp.r (t_pick (b := true) rfl rfl (fun _ => rfl) (fun h => by cases h))) (.inl rfl) (by kernel_rfl) ?_)))))))))
          refine VP.done (by kernel_rfl) (VA.subN (t' := [(1, .ptr ob_5674 0), (3, .sl .fz (rv_5680.map (cInt .i64))), (4, .own ob_5818 cap_5818 len_5818), (5, .int .i64 i_5764), (6, .int .i64 (out_5762.length : Int)), (42, .bool (c_5817.x1 == (w64 (c_5794 - 1))))]) ⟨⟨_, rfl, VLe.refl _⟩, ⟨_, rfl, VLe.refl _⟩, ⟨_, rfl, VLe.refl _⟩, ⟨_, rfl, VLe.refl _⟩, ⟨_, rfl, VLe.refl _⟩, ⟨_, rfl, VLe.refl _⟩, trivial⟩ rfl (VA.done (by kernel_rfl) ?_))
          exact thenQ_normal (J_5804 ⟨c_5817.x1 == (w64 (c_5794 - 1)), (.own ob_5818 cap_5818 len_5818), [(ob_5818, .cells ((out_5762.map Pr.c).flatten ++ sl_5818))]⟩ ⟨Option.some.inj h, (Buf.own (n := 2) (l := out_5762.map Pr.c) ob_5818 cap_5818 len_5818 sl_5818 (elemsOK_map Pr.c_ok _) (by simp [hl_5818]) hc_5818 hs_5818), trivial⟩)
        · replace h := iteF h hc_5816
          refine VA.skip (i := 3) rfl rfl rfl rfl rfl (by kernel_rfl) (VA.skip (i := 4) rfl rfl rfl rfl rfl (by kernel_rfl) (VA.skip (i := 5) rfl rfl rfl rfl rfl (by kernel_rfl) (VA.skip (i := 6) rfl rfl rfl rfl rfl (by kernel_rfl) (VA.skip (i := 7) rfl rfl rfl rfl rfl (by kernel_rfl) (VA.skip (i := 8) rfl rfl rfl rfl rfl (by kernel_rfl) (VA.skip (i := 9) rfl rfl rfl rfl rfl (by kernel_rfl) (VA.skip (i := 10) rfl rfl rfl rfl rfl (by kernel_rfl) (VA.skip (i := 11) rfl rfl rfl rfl rfl (by kernel_rfl) (VA.skip (i := 12) rfl rfl rfl rfl rfl (by kernel_rfl) ?_)))))))))
          refine VA.skip (i := 13) rfl rfl rfl rfl rfl (by kernel_rfl) (VA.skip (i := 14) rfl rfl rfl rfl rfl (by kernel_rfl) (VA.t (i := 15) (v := .bool false) rfl (t_pick (b := false) rfl rfl (fun h => by cases h) (fun _ => (fun _ _ => rfl))) (.inl rfl) (by kernel_rfl) (VA.subN (t' := [(1, .ptr ob_5674 0), (3, .sl .fz (rv_5680.map (cInt .i64))), (4, vbu5763), (5, .int .i64 i_5764), (6, .int .i64 (out_5762.length : Int)), (42, .bool false)]) ⟨⟨_, rfl, VLe.refl _⟩, ⟨_, rfl, VLe.refl _⟩, ⟨_, rfl, VLe.refl _⟩, ⟨_, rfl, VLe.refl _⟩, ⟨_, rfl, VLe.refl _⟩, ⟨_, rfl, VLe.refl _⟩, trivial⟩ rfl (VA.done (by kernel_rfl) ?_))))
          exact thenQ_normal (J_5804 ⟨false, vbu5763, bbu5763⟩ ⟨Option.some.inj h, hbu5763, trivial⟩)
  · replace h := iteF h hc_5793
    refine VW.subK (.c 4 rfl .n) rfl (VW.frontS 1 rfl (VW.hsub (A := hq ([bbu5763]) []) (hq_sub (.cons_cons _ (.cons _ .slnil)) .slnil) (VW.exit (thenQ_exit (thenQ_exit ?_)))))
    have h := Option.some.inj h
    subst h
    exact hx0 _ vbu5763 bbu5763 rfl hbu5763

theorem ref03_set_ok (a0 : Node) (r : List Pr) (h : PL.ref03_set a0 = some r) :
    VCalls Try.prog 49 [.agg [.int .i64 a0.Op, .int .i64 a0.Lo, .int .i64 a0.Hi, .sl .fz (a0.Kids.map Node.c)]] (hq [] []) (fun v H => .sl .fz (r.map Pr.c) = v ∧ H = hq [] []) := by
  unfold PL.ref03_set at h
  refine VCalls.of_body 69 [2] Try.func49 rfl rfl rfl (Nat.le_of_ble_eq_true rfl) (VW.subK (.c 0 rfl .n) rfl (VW.seq (VW.region (VO.w (fun v H' => ∃ ob_5674, .ptr ob_5674 0 = v ∧ H' = hq ([[(ob_5674, .cells [.int .i64 a0.Op, .int .i64 a0.Lo, .int .i64 a0.Hi, .sl .fz (a0.Kids.map Node.c)])]]) []) (w_box_q rfl rfl rfl (fun ob => ⟨ob, rfl, rfl⟩)) rfl rfl ?_))))
  rintro _ _ ⟨ob_5674, rfl, rfl⟩
  refine VO.t (v := .sl .nl []) (t_assign rfl (fun _ _ => .inl ⟨rfl, .inl rfl⟩)) rfl rfl (VO.eqv (A := hq ([[], [(ob_5674, .cells [.int .i64 a0.Op, .int .i64 a0.Lo, .int .i64 a0.Hi, .sl .fz (a0.Kids.map Node.c)])]]) []) (.refl _) (VO.nil (thenQ_normal (VW.subK (.c 1 rfl .n) rfl (VW.hsub (A := hq ([[(ob_5674, .cells [.int .i64 a0.Op, .int .i64 a0.Lo, .int .i64 a0.Hi, .sl .fz (a0.Kids.map Node.c)])]]) []) (hq_sub (.cons _ (.cons_cons _ .slnil)) .slnil) (VW.seq (VW.region (VO.r (v := .agg [.int .i64 a0.Op, .int .i64 a0.Lo, .int .i64 a0.Hi, .sl .fz (a0.Kids.map Node.c)]) (r_load_q (i := 0) rfl sz36 rfl rfl rfl) rfl rfl ?_))))))))
  obtain ⟨rv_5676, hx_5677, h⟩ := obind h
  refine VO.w (fun v H' => .sl .fz (rv_5676.map (cInt .i64)) = v ∧ H' = hq ([[(ob_5674, .cells [.int .i64 a0.Op, .int .i64 a0.Lo, .int .i64 a0.Hi, .sl .fz (a0.Kids.map Node.c)])]]) []) (w_call_q (sa := []) (sg := [[(ob_5674, .cells [.int .i64 a0.Op, .int .i64 a0.Lo, .int .i64 a0.Hi, .sl .fz (a0.Kids.map Node.c)])]]) (tks := []) rfl fn58 rfl ⟨_, _, rfl, rfl, .sl .fz [], _, rfl, (fun _ _ => .inl ⟨rfl, .inl rfl⟩), rfl⟩ (ref03_places_ok _ _ _ hx_5677) (by rintro v H' ⟨rfl, rfl⟩; exact ⟨[], rfl, rfl, rfl⟩)) rfl rfl ?_
  rintro _ _ ⟨rfl, rfl⟩
  obtain ⟨rv_5678, hx_5679, h⟩ := obind h
  refine VO.w (fun v H' => .sl .fz (rv_5678.map (cInt .i64)) = v ∧ H' = hq ([[(ob_5674, .cells [.int .i64 a0.Op, .int .i64 a0.Lo, .int .i64 a0.Hi, .sl .fz (a0.Kids.map Node.c)])]]) []) (w_call_q (sa := []) (sg := [[(ob_5674, .cells [.int .i64 a0.Op, .int .i64 a0.Lo, .int .i64 a0.Hi, .sl .fz (a0.Kids.map Node.c)])]]) (tks := []) rfl fn57 rfl ⟨_, _, rfl, rfl, .int .i64 (-1000000000000000), _, rfl, (fun _ _ => rfl), rfl⟩ (ref03_put_ok _ _ _ hx_5679) (by rintro v H' ⟨rfl, rfl⟩; exact ⟨[], rfl, rfl, rfl⟩)) rfl rfl ?_
  rintro _ _ ⟨rfl, rfl⟩
  obtain ⟨rv_5680, hx_5681, h⟩ := obind h
  refine VO.w (fun v H' => .sl .fz (rv_5680.map (cInt .i64)) = v ∧ H' = hq ([[(ob_5674, .cells [.int .i64 a0.Op, .int .i64 a0.Lo, .int .i64 a0.Hi, .sl .fz (a0.Kids.map Node.c)])]]) []) (w_call_q (sa := []) (sg := [[(ob_5674, .cells [.int .i64 a0.Op, .int .i64 a0.Lo, .int .i64 a0.Hi, .sl .fz (a0.Kids.map Node.c)])]]) (tks := []) rfl fn57 rfl ⟨_, _, rfl, rfl, .int .i64 1000000000000001, _, rfl, (fun _ _ => rfl), rfl⟩ (ref03_put_ok _ _ _ hx_5681) (by rintro v H' ⟨rfl, rfl⟩; exact ⟨[], rfl, rfl, rfl⟩)) rfl rfl ?_
  rintro _ _ ⟨rfl, rfl⟩
  refine VO.t (v := .sl .fz (rv_5680.map (cInt .i64))) (t_assign rfl rfl) rfl rfl (VO.nil (thenQ_normal (VW.subK (.c 1 rfl (.c 3 rfl .n)) rfl (VW.seq (VW.region (VO.t (v := .sl .nl []) (t_assign rfl (fun _ _ => .inl ⟨rfl, .inl rfl⟩)) rfl rfl (VO.eqv (A := hq ([[], [(ob_5674, .cells [.int .i64 a0.Op, .int .i64 a0.Lo, .int .i64 a0.Hi, .sl .fz (a0.Kids.map Node.c)])]]) []) (.refl _) (VO.nil (thenQ_normal ?_)))))))))
  refine VW.seq (VW.seq (VW.region (VO.t (v := .int .i64 0) (t_assign rfl (fun _ _ => rfl)) rfl rfl (VO.nil (thenQ_normal (VW.block (VW.subK (.c 1 rfl (.c 3 rfl (.c 4 rfl (.c 5 rfl .n)))) rfl (VW.frontS 0 rfl (VW.frontS 1 rfl ?_)))))))))
  obtain ⟨o_5819, hx_5820, h⟩ := obind h
  refine VW.loopL (ref03_set.l0_ok a0 rv_5680 _ _ _ hx_5820 ob_5674 (.sl .nl []) [] (.nil rfl) ?_)
  · intro out_5791 vbu5792 bbu5792 ho_ hbu5792
    subst ho_
    try dsimp only at h
    refine blockQ_hit (thenQ_normal (VW.seq (VW.region (VO.t (t_move rfl rfl) rfl rfl (VO.t (v := vbu5792) (t_assign rfl rfl) rfl rfl (VO.nil (thenQ_normal (VW.subK (.c 2 rfl .n) rfl (VW.freeze (t' := [(2, .sl .fz (out_5791.map Pr.c))]) 0 rfl hbu5792 ⟨.inr ⟨rfl, rfl⟩, trivial⟩ rfl ?_)))))))))
    refine VW.ret ?_
    have h := Option.some.inj h
    subst h
    exact ⟨.inr rfl, rfl, _, .sl .fz (out_5791.map Pr.c), hq [] [], rfl, VLe.refl _, hq_sub .slnil .slnil, rfl, rfl⟩

theorem ref03_As.l0_ok (a0 : List Pr) {Q : Exit → Env → HH → Prop} :
    ∀ (c_5930 : List Node) (i_5933 : Int) (o : (List Node)), PL.ref03_As.l0 a0 c_5930 i_5933 = some o →
    ∀ (ob_5821 : Nat) (ob_5824 : Nat) (tk_5931 : Tok) (hg_5932 : Tok.grow tk_5931 4 (c_5930.map Node.c)) (hx0 : ∀ (c_5957 : List Node) (tk_5958 : Tok), c_5957 = o → Tok.grow tk_5958 4 (c_5957.map Node.c) → Q (.exit 0) ⟨[(2, .ptr ob_5821 0), (3, .ptr ob_5824 0)], []⟩ (hq ([[(ob_5821, .cells [.int .i64 0, .int .i64 0, .int .i64 0, .sl .nl []])], [(ob_5824, .cells [.int .i64 1, .int .i64 0, .int .i64 0, .sl tk_5958 (c_5957.map Node.c)])]]) ([tk_5958]))), VW Try.prog 34 (codeAt [1, 1, 0, 1, 0, 0] (bodyOf Try.f50)) (thenQ (VL Try.prog 34 (codeAt [1, 1, 0, 1, 0, 0] (bodyOf Try.f50)) Q) Q) ⟨[(0, .sl .fz (a0.map Pr.c)), (2, .ptr ob_5821 0), (3, .ptr ob_5824 0), (4, .int .i64 i_5933)], []⟩ (hq ([[(ob_5821, .cells [.int .i64 0, .int .i64 0, .int .i64 0, .sl .nl []])], [(ob_5824, .cells [.int .i64 1, .int .i64 0, .int .i64 0, .sl tk_5931 (c_5930.map Node.c)])]]) ([tk_5931])) := by
  refine PL.ref03_As.l0.partial_correctness a0 (motive := fun c_5930 i_5933 o => ∀ (ob_5821 : Nat) (ob_5824 : Nat) (tk_5931 : Tok) (hg_5932 : Tok.grow tk_5931 4 (c_5930.map Node.c)) (hx0 : ∀ (c_5957 : List Node) (tk_5958 : Tok), c_5957 = o → Tok.grow tk_5958 4 (c_5957.map Node.c) → Q (.exit 0) ⟨[(2, .ptr ob_5821 0), (3, .ptr ob_5824 0)], []⟩ (hq ([[(ob_5821, .cells [.int .i64 0, .int .i64 0, .int .i64 0, .sl .nl []])], [(ob_5824, .cells [.int .i64 1, .int .i64 0, .int .i64 0, .sl tk_5958 (c_5957.map Node.c)])]]) ([tk_5958]))), VW Try.prog 34 (codeAt [1, 1, 0, 1, 0, 0] (bodyOf Try.f50)) (thenQ (VL Try.prog 34 (codeAt [1, 1, 0, 1, 0, 0] (bodyOf Try.f50)) Q) Q) ⟨[(0, .sl .fz (a0.map Pr.c)), (2, .ptr ob_5821 0), (3, .ptr ob_5824 0), (4, .int .i64 i_5933)], []⟩ (hq ([[(ob_5821, .cells [.int .i64 0, .int .i64 0, .int .i64 0, .sl .nl []])], [(ob_5824, .cells [.int .i64 1, .int .i64 0, .int .i64 0, .sl tk_5931 (c_5930.map Node.c)])]]) ([tk_5931]))) ?_
  intro _ ih c_5930 i_5933 o h ob_5821 ob_5824 tk_5931 hg_5932 hx0
  refine VW.seq (VW.seq (VW.region (VO.t (t_move rfl rfl) rfl rfl (VO.t (t_move rfl rfl) rfl rfl (VO.t (v := .int .i64 (a0.length : Int)) (t_len rfl ⟨_, Try.underlying22⟩ rfl (by rw [List.length_map])) rfl rfl (VO.t (v := .bool (decide (i_5933 < (a0.length : Int)))) (t_cmp rfl rfl rfl rfl rfl) rfl rfl (VO.nil (thenQ_normal (VW.subK (.c 0 rfl (.c 2 rfl (.c 3 rfl (.c 4 rfl (.c 14 rfl .n))))) rfl ?_)))))))))
  refine VW.cond (b := (decide (i_5933 < (a0.length : Int)))) rfl (fun hc_5960 => ?_) (fun hc_5960 => ?_)
  · replace h := iteT h hc_5960
    refine VW.skip (thenQ_normal (VW.subK (.c 0 rfl (.c 2 rfl (.c 3 rfl (.c 4 rfl .n)))) rfl (VW.seq (VW.block (VW.draw 17 mix rfl (VA.t (i := 0) (v := .ptr ob_5824 3) rfl (t_fieldAddr_ptr rfl fi36_3 rfl rfl) (.inl rfl) (by kernel_rfl) (VA.t (i := 2) rfl (t_move rfl rfl) (.inl rfl) (by kernel_rfl) (VA.t (i := 3) rfl (t_move rfl rfl) (.inl rfl) (by kernel_rfl) ?_))))))))
    obtain ⟨c_5961, hc_5961, h⟩ := obind h
    refine VA.t (i := 4) (v := .vptr [.int .i64 c_5961.x0, .int .i64 c_5961.x1]) rfl (t_indexAddr rfl sl22 rfl rfl (getI_some hc_5961).1 (map_get (getI_some hc_5961).2 (Pr.c_eq c_5961)) rfl) (.inl rfl) (by kernel_rfl) (VA.t (i := 5) (v := .vptr [.int .i64 c_5961.x0, .int .i64 c_5961.x1]) rfl (t_indexAddr_arr rfl ar49 rfl (fun _ _ => rfl) (by decide) (by decide) rfl) (.inl rfl) (by kernel_rfl) (VA.t (i := 7) rfl (t_move rfl rfl) (.inl rfl) (by kernel_rfl) (VA.t (i := 8) rfl (t_move rfl rfl) (.inl rfl) (by kernel_rfl) (VA.t (i := 9) (v := .vptr [.int .i64 c_5961.x0, .int .i64 c_5961.x1]) rfl (t_indexAddr rfl sl22 rfl rfl (getI_some hc_5961).1 (map_get (getI_some hc_5961).2 (Pr.c_eq c_5961)) rfl) (.inl rfl) (by kernel_rfl) (VA.t (i := 10) (v := .vptr [.int .i64 c_5961.x1]) rfl (t_indexAddr_arr rfl ar49 rfl (fun _ _ => rfl) (by decide) (by decide) rfl) (.inl rfl) (by kernel_rfl) ?_)))))
    refine VA.alt [1, 6, 11] (by kernel_rfl) rfl ⟨?_, ?_, ?_, trivial⟩
    · refine VA1.r (i := 1) (v := .sl tk_5931 (c_5930.map Node.c)) rfl (r_load_q (i := 1) rfl sz34 rfl rfl rfl) (.inl rfl) rfl (VA.phase (g := 4) [6, 11, 12] 3 (VP.take (i := 6) (v := .int .i64 c_5961.x0) rfl (r_load_v rfl sz3 rfl rfl) (.inl rfl) (by kernel_rfl) (VP.take (i := 11) (v := .int .i64 c_5961.x1) rfl (r_load_v rfl sz3 rfl rfl) (.inl rfl) (by kernel_rfl) (VP.take (i := 12) (v := .agg [.int .i64 0, .int .i64 c_5961.x0, .int .i64 c_5961.x1, .sl .nl []]) rfl (TOp.r (t_build rfl st36 ⟨_, _, rfl, rfl, rfl, _, _, rfl, rfl, rfl, rfl⟩ rfl)) (.inl rfl) (by kernel_rfl) (VP.done (by kernel_rfl) (VA.weak (d := 29) (v' := .agg [.int .i64 0, .int .i64 c_5961.x0, .int .i64 c_5961.x1, .sl .fz []]) rfl (VLe.agg ⟨VLe.refl _, VLe.refl _, VLe.refl _, VLe.sl _ _, trivial⟩) (VA.w (i := 13) (fun v H' => ∃ t_5962, .sl (.cap t_5962 4) (([Node.mk 0 c_5961.x0 c_5961.x1 []]).map Node.c) = v ∧ H' = hq ([[(ob_5821, .cells [.int .i64 0, .int .i64 0, .int .i64 0, .sl .nl []])], [(ob_5824, .cells [.int .i64 1, .int .i64 0, .int .i64 0, .sl tk_5931 (c_5930.map Node.c)])]]) ([.cap t_5962 4, tk_5931])) rfl (w_buildSlice (l := [[.int .i64 0, .int .i64 c_5961.x0, .int .i64 c_5961.x1, .sl .fz []]]) rfl el34 ⟨rfl, _, _, rfl, rfl, rfl, rfl, rfl⟩ rfl (Nat.le_of_ble_eq_true rfl) (fun tk => ⟨tk, by simp only [List.map_cons, List.map_nil, Node.c_eq], rfl⟩)) (.inl rfl) (by kernel_rfl) rfl ?_)))))))
      rintro _ _ ⟨t_5962, rfl, rfl⟩
      obtain ⟨_, hr_5963, h⟩ := obind h
      refine VA.w (i := 14) (fun v H' => ∃ t_5964, .sl (.cap t_5964 4) ((c_5930 ++ ([Node.mk 0 c_5961.x0 c_5961.x1 []])).map Node.c) = v ∧ H' = hq ([[(ob_5821, .cells [.int .i64 0, .int .i64 0, .int .i64 0, .sl .nl []])], [(ob_5824, .cells [.int .i64 1, .int .i64 0, .int .i64 0, .sl tk_5931 (c_5930.map Node.c)])]]) ([.cap t_5964 4, .cap t_5962 4])) rfl (w_append (objs := List.flatten [[(ob_5821, .cells [.int .i64 0, .int .i64 0, .int .i64 0, .sl .nl []])], [(ob_5824, .cells [.int .i64 1, .int .i64 0, .int .i64 0, .sl tk_5931 (c_5930.map Node.c)])]]) (tks := [.cap t_5962 4, tk_5931]) (i := 1) rfl el34 rfl rfl hg_5932 rfl (elemsOK_map Node.c_ok _) (by have := room_some hr_5963; simpa using this) (Nat.le_of_ble_eq_true rfl) (fun t => ⟨t, by simp only [List.map_append, List.map_nil, List.nil_append], rfl⟩)) (.inl rfl) (by kernel_rfl) rfl ?_
      rintro _ _ ⟨t_5964, rfl, rfl⟩
      refine VA.t (i := 15) (v := .ptr ob_5824 3) rfl (t_fieldAddr_ptr rfl fi36_3 rfl rfl) (.inl rfl) (by kernel_rfl) (VA.w (i := 16) (fun v H' => .any = v ∧ H' = hq ([[(ob_5821, .cells [.int .i64 0, .int .i64 0, .int .i64 0, .sl .nl []])], [(ob_5824, .cells [.int .i64 1, .int .i64 0, .int .i64 0, .sl (.cap t_5964 4) ((c_5930 ++ ([Node.mk 0 c_5961.x0 c_5961.x1 []])).map Node.c)])]]) ([.cap t_5964 4, .cap t_5962 4])) rfl (w_store_q (i := 1) rfl sz34 rfl rfl rfl rfl rfl (Nat.le_of_ble_eq_true rfl) ⟨rfl, rfl⟩) (.inl rfl) (by kernel_rfl) rfl ?_)
      rintro _ _ ⟨rfl, rfl⟩
      refine VA.done (by kernel_rfl) (blockQ_normal (thenQ_normal (VW.subK (.c 0 rfl (.c 2 rfl (.c 3 rfl (.c 4 rfl .n)))) rfl (VW.hsub (A := hq ([[(ob_5821, .cells [.int .i64 0, .int .i64 0, .int .i64 0, .sl .nl []])], [(ob_5824, .cells [.int .i64 1, .int .i64 0, .int .i64 0, .sl (.cap t_5964 4) ((c_5930 ++ ([Node.mk 0 c_5961.x0 c_5961.x1 []])).map Node.c)])]]) ([.cap t_5964 4])) (hq_sub (.cons_cons _ (.cons_cons _ .slnil)) (.cons_cons _ (.cons _ .slnil))) (VW.region (VO.t (t_move rfl rfl) rfl rfl (VO.t (v := .int .i64 (w64 (i_5933 + 1))) (t_add rfl rfl (fun _ _ => rfl) rfl) rfl rfl (VO.t (v := .int .i64 (w64 (i_5933 + 1))) (t_assign rfl rfl) rfl rfl (VO.nil ?_)))))))))
      refine thenQ_normal (VL.round ?_)
      refine VW.subK (.c 0 rfl (.c 2 rfl (.c 3 rfl (.c 4 rfl .n)))) rfl ?_
      exact ih _ _ _ h ob_5821 ob_5824 (.cap t_5964 4) (.inr ⟨_, rfl⟩) hx0
    · refine VA1.r (i := 6) (v := .int .i64 c_5961.x0) rfl (r_load_v rfl sz3 rfl rfl) (.inl rfl) rfl ?_
      refine VA.alt [1, 11] (by kernel_rfl) rfl ⟨?_, ?_, trivial⟩
      · refine VA1.r (i := 1) (v := .sl tk_5931 (c_5930.map Node.c)) rfl (r_load_q (i := 1) rfl sz34 rfl rfl rfl) (.inl rfl) rfl (VA.phase (g := 4) [11, 12] 2 (VP.take (i := 11) (v := .int .i64 c_5961.x1) rfl (r_load_v rfl sz3 rfl rfl) (.inl rfl) (by kernel_rfl) (VP.take (i := 12) (v := .agg [.int .i64 0, .int .i64 c_5961.x0, .int .i64 c_5961.x1, .sl .nl []]) rfl (TOp.r (t_build rfl st36 ⟨_, _, rfl, rfl, rfl, _, _, rfl, rfl, rfl, rfl⟩ rfl)) (.inl rfl) (by kernel_rfl) (VP.done (by kernel_rfl) (VA.weak (d := 29) (v' := .agg [.int .i64 0, .int .i64 c_5961.x0, .int .i64 c_5961.x1, .sl .fz []]) rfl (VLe.agg ⟨VLe.refl _, VLe.refl _, VLe.refl _, VLe.sl _ _, trivial⟩) (VA.w (i := 13) (fun v H' => ∃ t_5965, .sl (.cap t_5965 4) (([Node.mk 0 c_5961.x0 c_5961.x1 []]).map Node.c) = v ∧ H' = hq ([[(ob_5821, .cells [.int .i64 0, .int .i64 0, .int .i64 0, .sl .nl []])], [(ob_5824, .cells [.int .i64 1, .int .i64 0, .int .i64 0, .sl tk_5931 (c_5930.map Node.c)])]]) ([.cap t_5965 4, tk_5931])) rfl (w_buildSlice (l := [[.int .i64 0, .int .i64 c_5961.x0, .int .i64 c_5961.x1, .sl .fz []]]) rfl el34 ⟨rfl, _, _, rfl, rfl, rfl, rfl, rfl⟩ rfl (Nat.le_of_ble_eq_true rfl) (fun tk => ⟨tk, by simp only [List.map_cons, List.map_nil, Node.c_eq], rfl⟩)) (.inl rfl) (by kernel_rfl) rfl ?_))))))
        rintro _ _ ⟨t_5965, rfl, rfl⟩
        obtain ⟨_, hr_5966, h⟩ := obind h
        refine VA.w (i := 14) (fun v H' => ∃ t_5967, .sl (.cap t_5967 4) ((c_5930 ++ ([Node.mk 0 c_5961.x0 c_5961.x1 []])).map Node.c) = v ∧ H' = hq ([[(ob_5821, .cells [.int .i64 0, .int .i64 0, .int .i64 0, .sl .nl []])], [(ob_5824, .cells [.int .i64 1, .int .i64 0, .int .i64 0, .sl tk_5931 (c_5930.map Node.c)])]]) ([.cap t_5967 4, .cap t_5965 4])) rfl (w_append (objs := List.flatten [[(ob_5821, .cells [.int .i64 0, .int .i64 0, .int .i64 0, .sl .nl []])], [(ob_5824, .cells [.int .i64 1, .int .i64 0, .int .i64 0, .sl tk_5931 (c_5930.map Node.c)])]]) (tks := [.cap t_5965 4, tk_5931]) (i := 1) rfl el34 rfl rfl hg_5932 rfl (elemsOK_map Node.c_ok _) (by have := room_some hr_5966; simpa using this) (Nat.le_of_ble_eq_true rfl) (fun t => ⟨t, by simp only [List.map_append, List.map_nil, List.nil_append], rfl⟩)) (.inl rfl) (by kernel_rfl) rfl ?_
        rintro _ _ ⟨t_5967, rfl, rfl⟩
        refine VA.t (i := 15) (v := .ptr ob_5824 3) rfl (t_fieldAddr_ptr rfl fi36_3 rfl rfl) (.inl rfl) (by kernel_rfl) (VA.w (i := 16) (fun v H' => .any = v ∧ H' = hq ([[(ob_5821, .cells [.int .i64 0, .int .i64 0, .int .i64 0, .sl .nl []])], [(ob_5824, .cells [.int .i64 1, .int .i64 0, .int .i64 0, .sl (.cap t_5967 4) ((c_5930 ++ ([Node.mk 0 c_5961.x0 c_5961.x1 []])).map Node.c)])]]) ([.cap t_5967 4, .cap t_5965 4])) rfl (w_store_q (i := 1) rfl sz34 rfl rfl rfl rfl rfl (Nat.le_of_ble_eq_true rfl) ⟨rfl, rfl⟩) (.inl rfl) (by kernel_rfl) rfl ?_)
        rintro _ _ ⟨rfl, rfl⟩
        refine VA.done (by kernel_rfl) (blockQ_normal (thenQ_normal (VW.subK (.c 0 rfl (.c 2 rfl (.c 3 rfl (.c 4 rfl .n)))) rfl (VW.hsub (A := hq ([[(ob_5821, .cells [.int .i64 0, .int .i64 0, .int .i64 0, .sl .nl []])], [(ob_5824, .cells [.int .i64 1, .int .i64 0, .int .i64 0, .sl (.cap t_5967 4) ((c_5930 ++ ([Node.mk 0 c_5961.x0 c_5961.x1 []])).map Node.c)])]]) ([.cap t_5967 4])) (hq_sub (.cons_cons _ (.cons_cons _ .slnil)) (.cons_cons _ (.cons _ .slnil))) (VW.region (VO.t (t_move rfl rfl) rfl rfl (VO.t (v := .int .i64 (w64 (i_5933 + 1))) (t_add rfl rfl (fun _ _ => rfl) rfl) rfl rfl (VO.t (v := .int .i64 (w64 (i_5933 + 1))) (t_assign rfl rfl) rfl rfl (VO.nil ?_)))))))))
        refine thenQ_normal (VL.round ?_)
        refine VW.subK (.c 0 rfl (.c 2 rfl (.c 3 rfl (.c 4 rfl .n)))) rfl ?_
        exact ih _ _ _ h ob_5821 ob_5824 (.cap t_5967 4) (.inr ⟨_, rfl⟩) hx0
      · refine VA1.r (i := 11) (v := .int .i64 c_5961.x1) rfl (r_load_v rfl sz3 rfl rfl) (.inl rfl) rfl (VA.t (i := 12) (v := .agg [.int .i64 0, .int .i64 c_5961.x0, .int .i64 c_5961.x1, .sl .nl []]) rfl (t_build rfl st36 ⟨_, _, rfl, rfl, rfl, _, _, rfl, rfl, rfl, rfl⟩ rfl) (.inl rfl) (by kernel_rfl) ?_)
        refine VA.alt [1, 13] (by kernel_rfl) rfl ⟨?_, ?_, trivial⟩
        · refine VA1.r (i := 1) (v := .sl tk_5931 (c_5930.map Node.c)) rfl (r_load_q (i := 1) rfl sz34 rfl rfl rfl) (.inl rfl) rfl (VA.weak (d := 29) (v' := .agg [.int .i64 0, .int .i64 c_5961.x0, .int .i64 c_5961.x1, .sl .fz []]) rfl (VLe.agg ⟨VLe.refl _, VLe.refl _, VLe.refl _, VLe.sl _ _, trivial⟩) (VA.w (i := 13) (fun v H' => ∃ t_5968, .sl (.cap t_5968 4) (([Node.mk 0 c_5961.x0 c_5961.x1 []]).map Node.c) = v ∧ H' = hq ([[(ob_5821, .cells [.int .i64 0, .int .i64 0, .int .i64 0, .sl .nl []])], [(ob_5824, .cells [.int .i64 1, .int .i64 0, .int .i64 0, .sl tk_5931 (c_5930.map Node.c)])]]) ([.cap t_5968 4, tk_5931])) rfl (w_buildSlice (l := [[.int .i64 0, .int .i64 c_5961.x0, .int .i64 c_5961.x1, .sl .fz []]]) rfl el34 ⟨rfl, _, _, rfl, rfl, rfl, rfl, rfl⟩ rfl (Nat.le_of_ble_eq_true rfl) (fun tk => ⟨tk, by simp only [List.map_cons, List.map_nil, Node.c_eq], rfl⟩)) (.inl rfl) (by kernel_rfl) rfl ?_))
          rintro _ _ ⟨t_5968, rfl, rfl⟩
          obtain ⟨_, hr_5969, h⟩ := obind h
          refine VA.w (i := 14) (fun v H' => ∃ t_5970, .sl (.cap t_5970 4) ((c_5930 ++ ([Node.mk 0 c_5961.x0 c_5961.x1 []])).map Node.c) = v ∧ H' = hq ([[(ob_5821, .cells [.int .i64 0, .int .i64 0, .int .i64 0, .sl .nl []])], [(ob_5824, .cells [.int .i64 1, .int .i64 0, .int .i64 0, .sl tk_5931 (c_5930.map Node.c)])]]) ([.cap t_5970 4, .cap t_5968 4])) rfl (w_append (objs := List.flatten [[(ob_5821, .cells [.int .i64 0, .int .i64 0, .int .i64 0, .sl .nl []])], [(ob_5824, .cells [.int .i64 1, .int .i64 0, .int .i64 0, .sl tk_5931 (c_5930.map Node.c)])]]) (tks := [.cap t_5968 4, tk_5931]) (i := 1) rfl el34 rfl rfl hg_5932 rfl (elemsOK_map Node.c_ok _) (by have := room_some hr_5969; simpa using this) (Nat.le_of_ble_eq_true rfl) (fun t => ⟨t, by simp only [List.map_append, List.map_nil, List.nil_append], rfl⟩)) (.inl rfl) (by kernel_rfl) rfl ?_
          rintro _ _ ⟨t_5970, rfl, rfl⟩
          refine VA.t (i := 15) (v := .ptr ob_5824 3) rfl (t_fieldAddr_ptr rfl fi36_3 rfl rfl) (.inl rfl) (by kernel_rfl) (VA.w (i := 16) (fun v H' => .any = v ∧ H' = hq ([[(ob_5821, .cells [.int .i64 0, .int .i64 0, .int .i64 0, .sl .nl []])], [(ob_5824, .cells [.int .i64 1, .int .i64 0, .int .i64 0, .sl (.cap t_5970 4) ((c_5930 ++ ([Node.mk 0 c_5961.x0 c_5961.x1 []])).map Node.c)])]]) ([.cap t_5970 4, .cap t_5968 4])) rfl (w_store_q (i := 1) rfl sz34 rfl rfl rfl rfl rfl (Nat.le_of_ble_eq_true rfl) ⟨rfl, rfl⟩) (.inl rfl) (by kernel_rfl) rfl ?_)
          rintro _ _ ⟨rfl, rfl⟩
          refine VA.done (by kernel_rfl) (blockQ_normal (thenQ_normal (VW.subK (.c 0 rfl (.c 2 rfl (.c 3 rfl (.c 4 rfl .n)))) rfl (VW.hsub (A := hq ([[(ob_5821, .cells [.int .i64 0, .int .i64 0, .int .i64 0, .sl .nl []])], [(ob_5824, .cells [.int .i64 1, .int .i64 0, .int .i64 0, .sl (.cap t_5970 4) ((c_5930 ++ ([Node.mk 0 c_5961.x0 c_5961.x1 []])).map Node.c)])]]) ([.cap t_5970 4])) (hq_sub (.cons_cons _ (.cons_cons _ .slnil)) (.cons_cons _ (.cons _ .slnil))) (VW.region (VO.t (t_move rfl rfl) rfl rfl (VO.t (v := .int .i64 (w64 (i_5933 + 1))) (t_add rfl rfl (fun _ _ => rfl) rfl) rfl rfl (VO.t (v := .int .i64 (w64 (i_5933 + 1))) (t_assign rfl rfl) rfl rfl (VO.nil ?_)))))))))
          refine thenQ_normal (VL.round ?_)
          refine VW.subK (.c 0 rfl (.c 2 rfl (.c 3 rfl (.c 4 rfl .n)))) rfl ?_
          exact ih _ _ _ h ob_5821 ob_5824 (.cap t_5970 4) (.inr ⟨_, rfl⟩) hx0
        · refine VA1.weak (d := 29) (v' := .agg [.int .i64 0, .int .i64 c_5961.x0, .int .i64 c_5961.x1, .sl .fz []]) rfl (VLe.agg ⟨VLe.refl _, VLe.refl _, VLe.refl _, VLe.sl _ _, trivial⟩) (VA1.w (i := 13) (fun v H' => ∃ t_5971, .sl (.cap t_5971 4) (([Node.mk 0 c_5961.x0 c_5961.x1 []]).map Node.c) = v ∧ H' = hq ([[(ob_5821, .cells [.int .i64 0, .int .i64 0, .int .i64 0, .sl .nl []])], [(ob_5824, .cells [.int .i64 1, .int .i64 0, .int .i64 0, .sl tk_5931 (c_5930.map Node.c)])]]) ([.cap t_5971 4, tk_5931])) rfl (w_buildSlice (l := [[.int .i64 0, .int .i64 c_5961.x0, .int .i64 c_5961.x1, .sl .fz []]]) rfl el34 ⟨rfl, _, _, rfl, rfl, rfl, rfl, rfl⟩ rfl (Nat.le_of_ble_eq_true rfl) (fun tk => ⟨tk, by simp only [List.map_cons, List.map_nil, Node.c_eq], rfl⟩)) (.inl rfl) rfl ?_)
          rintro _ _ ⟨t_5971, rfl, rfl⟩
          refine VA.phase (g := 3) [1] 1 (VP.take (i := 1) (v := .sl tk_5931 (c_5930.map Node.c)) rfl (r_load_q (i := 1) rfl sz34 rfl rfl rfl) (.inl rfl) (by kernel_rfl) (VP.done (by kernel_rfl) ?_))
          obtain ⟨_, hr_5972, h⟩ := obind h
          refine VA.w (i := 14) (fun v H' => ∃ t_5973, .sl (.cap t_5973 4) ((c_5930 ++ ([Node.mk 0 c_5961.x0 c_5961.x1 []])).map Node.c) = v ∧ H' = hq ([[(ob_5821, .cells [.int .i64 0, .int .i64 0, .int .i64 0, .sl .nl []])], [(ob_5824, .cells [.int .i64 1, .int .i64 0, .int .i64 0, .sl tk_5931 (c_5930.map Node.c)])]]) ([.cap t_5973 4, .cap t_5971 4])) rfl (w_append (objs := List.flatten [[(ob_5821, .cells [.int .i64 0, .int .i64 0, .int .i64 0, .sl .nl []])], [(ob_5824, .cells [.int .i64 1, .int .i64 0, .int .i64 0, .sl tk_5931 (c_5930.map Node.c)])]]) (tks := [.cap t_5971 4, tk_5931]) (i := 1) rfl el34 rfl rfl hg_5932 rfl (elemsOK_map Node.c_ok _) (by have := room_some hr_5972; simpa using this) (Nat.le_of_ble_eq_true rfl) (fun t => ⟨t, by simp only [List.map_append, List.map_nil, List.nil_append], rfl⟩)) (.inl rfl) (by kernel_rfl) rfl ?_
          rintro _ _ ⟨t_5973, rfl, rfl⟩
          refine VA.t (i := 15) (v := .ptr ob_5824 3) rfl (t_fieldAddr_ptr rfl fi36_3 rfl rfl) (.inl rfl) (by kernel_rfl) (VA.w (i := 16) (fun v H' => .any = v ∧ H' = hq ([[(ob_5821, .cells [.int .i64 0, .int .i64 0, .int .i64 0, .sl .nl []])], [(ob_5824, .cells [.int .i64 1, .int .i64 0, .int .i64 0, .sl (.cap t_5973 4) ((c_5930 ++ ([Node.mk 0 c_5961.x0 c_5961.x1 []])).map Node.c)])]]) ([.cap t_5973 4, .cap t_5971 4])) rfl (w_store_q (i := 1) rfl sz34 rfl rfl rfl rfl rfl (Nat.le_of_ble_eq_true rfl) ⟨rfl, rfl⟩) (.inl rfl) (by kernel_rfl) rfl ?_)
          rintro _ _ ⟨rfl, rfl⟩
          refine VA.done (by kernel_rfl) (blockQ_normal (thenQ_normal (VW.subK (.c 0 rfl (.c 2 rfl (.c 3 rfl (.c 4 rfl .n)))) rfl (VW.hsub (A := hq ([[(ob_5821, .cells [.int .i64 0, .int .i64 0, .int .i64 0, .sl .nl []])], [(ob_5824, .cells [.int .i64 1, .int .i64 0, .int .i64 0, .sl (.cap t_5973 4) ((c_5930 ++ ([Node.mk 0 c_5961.x0 c_5961.x1 []])).map Node.c)])]]) ([.cap t_5973 4])) (hq_sub (.cons_cons _ (.cons_cons _ .slnil)) (.cons_cons _ (.cons _ .slnil))) (VW.region (VO.t (t_move rfl rfl) rfl rfl (VO.t (v := .int .i64 (w64 (i_5933 + 1))) (t_add rfl rfl (fun _ _ => rfl) rfl) rfl rfl (VO.t (v := .int .i64 (w64 (i_5933 + 1))) (t_assign rfl rfl) rfl rfl (VO.nil ?_)))))))))
          refine thenQ_normal (VL.round ?_)
          refine VW.subK (.c 0 rfl (.c 2 rfl (.c 3 rfl (.c 4 rfl .n)))) rfl ?_
          exact ih _ _ _ h ob_5821 ob_5824 (.cap t_5973 4) (.inr ⟨_, rfl⟩) hx0
    · refine VA1.r (i := 11) (v := .int .i64 c_5961.x1) rfl (r_load_v rfl sz3 rfl rfl) (.inl rfl) rfl ?_
      refine VA.alt [1, 6] (by kernel_rfl) rfl ⟨?_, ?_, trivial⟩
      · refine VA1.r (i := 1) (v := .sl tk_5931 (c_5930.map Node.c)) rfl (r_load_q (i := 1) rfl sz34 rfl rfl rfl) (.inl rfl) rfl (VA.phase (g := 4) [6, 12] 2 (VP.take (i := 6) (v := .int .i64 c_5961.x0) rfl (r_load_v rfl sz3 rfl rfl) (.inl rfl) (by kernel_rfl) (VP.take (i := 12) (v := .agg [.int .i64 0, .int .i64 c_5961.x0, .int .i64 c_5961.x1, .sl .nl []]) rfl (TOp.r (t_build rfl st36 ⟨_, _, rfl, rfl, rfl, _, _, rfl, rfl, rfl, rfl⟩ rfl)) (.inl rfl) (by kernel_rfl) (VP.done (by kernel_rfl) (VA.weak (d := 29) (v' := .agg [.int .i64 0, .int .i64 c_5961.x0, .int .i64 c_5961.x1, .sl .fz []]) rfl (VLe.agg ⟨VLe.refl _, VLe.refl _, VLe.refl _, VLe.sl _ _, trivial⟩) (VA.w (i := 13) (fun v H' => ∃ t_5974, .sl (.cap t_5974 4) (([Node.mk 0 c_5961.x0 c_5961.x1 []]).map Node.c) = v ∧ H' = hq ([[(ob_5821, .cells [.int .i64 0, .int .i64 0, .int .i64 0, .sl .nl []])], [(ob_5824, .cells [.int .i64 1, .int .i64 0, .int .i64 0, .sl tk_5931 (c_5930.map Node.c)])]]) ([.cap t_5974 4, tk_5931])) rfl (w_buildSlice (l := [[.int .i64 0, .int .i64 c_5961.x0, .int .i64 c_5961.x1, .sl .fz []]]) rfl el34 ⟨rfl, _, _, rfl, rfl, rfl, rfl, rfl⟩ rfl (Nat.le_of_ble_eq_true rfl) (fun tk => ⟨tk, by simp only [List.map_cons, List.map_nil, Node.c_eq], rfl⟩)) (.inl rfl) (by kernel_rfl) rfl ?_))))))
        rintro _ _ ⟨t_5974, rfl, rfl⟩
        obtain ⟨_, hr_5975, h⟩ := obind h
        refine VA.w (i := 14) (fun v H' => ∃ t_5976, .sl (.cap t_5976 4) ((c_5930 ++ ([Node.mk 0 c_5961.x0 c_5961.x1 []])).map Node.c) = v ∧ H' = hq ([[(ob_5821, .cells [.int .i64 0, .int .i64 0, .int .i64 0, .sl .nl []])], [(ob_5824, .cells [.int .i64 1, .int .i64 0, .int .i64 0, .sl tk_5931 (c_5930.map Node.c)])]]) ([.cap t_5976 4, .cap t_5974 4])) rfl (w_append (objs := List.flatten [[(ob_5821, .cells [.int .i64 0, .int .i64 0, .int .i64 0, .sl .nl []])], [(ob_5824, .cells [.int .i64 1, .int .i64 0, .int .i64 0, .sl tk_5931 (c_5930.map Node.c)])]]) (tks := [.cap t_5974 4, tk_5931]) (i := 1) rfl el34 rfl rfl hg_5932 rfl (elemsOK_map Node.c_ok _) (by have := room_some hr_5975; simpa using this) (Nat.le_of_ble_eq_true rfl) (fun t => ⟨t, by simp only [List.map_append, List.map_nil, List.nil_append], rfl⟩)) (.inl rfl) (by kernel_rfl) rfl ?_
        rintro _ _ ⟨t_5976, rfl, rfl⟩
        refine VA.t (i := 15) (v := .ptr ob_5824 3) rfl (t_fieldAddr_ptr rfl fi36_3 rfl rfl) (.inl rfl) (by kernel_rfl) (VA.w (i := 16) (fun v H' => .any = v ∧ H' = hq ([[(ob_5821, .cells [.int .i64 0, .int .i64 0, .int .i64 0, .sl .nl []])], [(ob_5824, .cells [.int .i64 1, .int .i64 0, .int .i64 0, .sl (.cap t_5976 4) ((c_5930 ++ ([Node.mk 0 c_5961.x0 c_5961.x1 []])).map Node.c)])]]) ([.cap t_5976 4, .cap t_5974 4])) rfl (w_store_q (i := 1) rfl sz34 rfl rfl rfl rfl rfl (Nat.le_of_ble_eq_true rfl) ⟨rfl, rfl⟩) (.inl rfl) (by kernel_rfl) rfl ?_)
        rintro _ _ ⟨rfl, rfl⟩
        refine VA.done (by kernel_rfl) (blockQ_normal (thenQ_normal (VW.subK (.c 0 rfl (.c 2 rfl (.c 3 rfl (.c 4 rfl .n)))) rfl (VW.hsub (A := hq ([[(ob_5821, .cells [.int .i64 0, .int .i64 0, .int .i64 0, .sl .nl []])], [(ob_5824, .cells [.int .i64 1, .int .i64 0, .int .i64 0, .sl (.cap t_5976 4) ((c_5930 ++ ([Node.mk 0 c_5961.x0 c_5961.x1 []])).map Node.c)])]]) ([.cap t_5976 4])) (hq_sub (.cons_cons _ (.cons_cons _ .slnil)) (.cons_cons _ (.cons _ .slnil))) (VW.region (VO.t (t_move rfl rfl) rfl rfl (VO.t (v := .int .i64 (w64 (i_5933 + 1))) (t_add rfl rfl (fun _ _ => rfl) rfl) rfl rfl (VO.t (v := .int .i64 (w64 (i_5933 + 1))) (t_assign rfl rfl) rfl rfl (VO.nil ?_)))))))))
        refine thenQ_normal (VL.round ?_)
        refine VW.subK (.c 0 rfl (.c 2 rfl (.c 3 rfl (.c 4 rfl .n)))) rfl ?_
        exact ih _ _ _ h ob_5821 ob_5824 (.cap t_5976 4) (.inr ⟨_, rfl⟩) hx0
      · refine VA1.r (i := 6) (v := .int .i64 c_5961.x0) rfl (r_load_v rfl sz3 rfl rfl) (.inl rfl) rfl (VA.t (i := 12) (v := .agg [.int .i64 0, .int .i64 c_5961.x0, .int .i64 c_5961.x1, .sl .nl []]) rfl (t_build rfl st36 ⟨_, _, rfl, rfl, rfl, _, _, rfl, rfl, rfl, rfl⟩ rfl) (.inl rfl) (by kernel_rfl) ?_)
        refine VA.alt [1, 13] (by kernel_rfl) rfl ⟨?_, ?_, trivial⟩
        · refine VA1.r (i := 1) (v := .sl tk_5931 (c_5930.map Node.c)) rfl (r_load_q (i := 1) rfl sz34 rfl rfl rfl) (.inl rfl) rfl (VA.weak (d := 29) (v' := .agg [.int .i64 0, .int .i64 c_5961.x0, .int .i64 c_5961.x1, .sl .fz []]) rfl (VLe.agg ⟨VLe.refl _, VLe.refl _, VLe.refl _, VLe.sl _ _, trivial⟩) (VA.w (i := 13) (fun v H' => ∃ t_5977, .sl (.cap t_5977 4) (([Node.mk 0 c_5961.x0 c_5961.x1 []]).map Node.c) = v ∧ H' = hq ([[(ob_5821, .cells [.int .i64 0, .int .i64 0, .int .i64 0, .sl .nl []])], [(ob_5824, .cells [.int .i64 1, .int .i64 0, .int .i64 0, .sl tk_5931 (c_5930.map Node.c)])]]) ([.cap t_5977 4, tk_5931])) rfl (w_buildSlice (l := [[.int .i64 0, .int .i64 c_5961.x0, .int .i64 c_5961.x1, .sl .fz []]]) rfl el34 ⟨rfl, _, _, rfl, rfl, rfl, rfl, rfl⟩ rfl (Nat.le_of_ble_eq_true rfl) (fun tk => ⟨tk, by simp only [List.map_cons, List.map_nil, Node.c_eq], rfl⟩)) (.inl rfl) (by kernel_rfl) rfl ?_))
          rintro _ _ ⟨t_5977, rfl, rfl⟩
          obtain ⟨_, hr_5978, h⟩ := obind h
          refine VA.w (i := 14) (fun v H' => ∃ t_5979, .sl (.cap t_5979 4) ((c_5930 ++ ([Node.mk 0 c_5961.x0 c_5961.x1 []])).map Node.c) = v ∧ H' = hq ([[(ob_5821, .cells [.int .i64 0, .int .i64 0, .int .i64 0, .sl .nl []])], [(ob_5824, .cells [.int .i64 1, .int .i64 0, .int .i64 0, .sl tk_5931 (c_5930.map Node.c)])]]) ([.cap t_5979 4, .cap t_5977 4])) rfl (w_append (objs := List.flatten [[(ob_5821, .cells [.int .i64 0, .int .i64 0, .int .i64 0, .sl .nl []])], [(ob_5824, .cells [.int .i64 1, .int .i64 0, .int .i64 0, .sl tk_5931 (c_5930.map Node.c)])]]) (tks := [.cap t_5977 4, tk_5931]) (i := 1) rfl el34 rfl rfl hg_5932 rfl (elemsOK_map Node.c_ok _) (by have := room_some hr_5978; simpa using this) (Nat.le_of_ble_eq_true rfl) (fun t => ⟨t, by simp only [List.map_append, List.map_nil, List.nil_append], rfl⟩)) (.inl rfl) (by kernel_rfl) rfl ?_
          rintro _ _ ⟨t_5979, rfl, rfl⟩
          refine VA.t (i := 15) (v := .ptr ob_5824 3) rfl (t_fieldAddr_ptr rfl fi36_3 rfl rfl) (.inl rfl) (by kernel_rfl) (VA.w (i := 16) (fun v H' => .any = v ∧ H' = hq ([[(ob_5821, .cells [.int .i64 0, .int .i64 0, .int .i64 0, .sl .nl []])], [(ob_5824, .cells [.int .i64 1, .int .i64 0, .int .i64 0, .sl (.cap t_5979 4) ((c_5930 ++ ([Node.mk 0 c_5961.x0 c_5961.x1 []])).map Node.c)])]]) ([.cap t_5979 4, .cap t_5977 4])) rfl (w_store_q (i := 1) rfl sz34 rfl rfl rfl rfl rfl (Nat.le_of_ble_eq_true rfl) ⟨rfl, rfl⟩) (.inl rfl) (by kernel_rfl) rfl ?_)
          rintro _ _ ⟨rfl, rfl⟩
          refine VA.done (by kernel_rfl) (blockQ_normal (thenQ_normal (VW.subK (.c 0 rfl (.c 2 rfl (.c 3 rfl (.c 4 rfl .n)))) rfl (VW.hsub (A := hq ([[(ob_5821, .cells [.int .i64 0, .int .i64 0, .int .i64 0, .sl .nl []])], [(ob_5824, .cells [.int .i64 1, .int .i64 0, .int .i64 0, .sl (.cap t_5979 4) ((c_5930 ++ ([Node.mk 0 c_5961.x0 c_5961.x1 []])).map Node.c)])]]) ([.cap t_5979 4])) (hq_sub (.cons_cons _ (.cons_cons _ .slnil)) (.cons_cons _ (.cons _ .slnil))) (VW.region (VO.t (t_move rfl rfl) rfl rfl (VO.t (v := .int .i64 (w64 (i_5933 + 1))) (t_add rfl rfl (fun _ _ => rfl) rfl) rfl rfl (VO.t (v := .int .i64 (w64 (i_5933 + 1))) (t_assign rfl rfl) rfl rfl (VO.nil ?_)))))))))
          refine thenQ_normal (VL.round ?_)
          refine VW.subK (.c 0 rfl (.c 2 rfl (.c 3 rfl (.c 4 rfl .n)))) rfl ?_
          exact ih _ _ _ h ob_5821 ob_5824 (.cap t_5979 4) (.inr ⟨_, rfl⟩) hx0
        · refine VA1.weak (d := 29) (v' := .agg [.int .i64 0, .int .i64 c_5961.x0, .int .i64 c_5961.x1, .sl .fz []]) rfl (VLe.agg ⟨VLe.refl _, VLe.refl _, VLe.refl _, VLe.sl _ _, trivial⟩) (VA1.w (i := 13) (fun v H' => ∃ t_5980, .sl (.cap t_5980 4) (([Node.mk 0 c_5961.x0 c_5961.x1 []]).map Node.c) = v ∧ H' = hq ([[(ob_5821, .cells [.int .i64 0, .int .i64 0, .int .i64 0, .sl .nl []])], [(ob_5824, .cells [.int .i64 1, .int .i64 0, .int .i64 0, .sl tk_5931 (c_5930.map Node.c)])]]) ([.cap t_5980 4, tk_5931])) rfl (w_buildSlice (l := [[.int .i64 0, .int .i64 c_5961.x0, .int .i64 c_5961.x1, .sl .fz []]]) rfl el34 ⟨rfl, _, _, rfl, rfl, rfl, rfl, rfl⟩ rfl (Nat.le_of_ble_eq_true rfl) (fun tk => ⟨tk, by simp only [List.map_cons, List.map_nil, Node.c_eq], rfl⟩)) (.inl rfl) rfl ?_)
          rintro _ _ ⟨t_5980, rfl, rfl⟩
          refine VA.phase (g := 3) [1] 1 (VP.take (i := 1) (v := .sl tk_5931 (c_5930.map Node.c)) rfl (r_load_q (i := 1) rfl sz34 rfl rfl rfl) (.inl rfl) (by kernel_rfl) (VP.done (by kernel_rfl) ?_))
          obtain ⟨_, hr_5981, h⟩ := obind h
          refine VA.w (i := 14) (fun v H' => ∃ t_5982, .sl (.cap t_5982 4) ((c_5930 ++ ([Node.mk 0 c_5961.x0 c_5961.x1 []])).map Node.c) = v ∧ H' = hq ([[(ob_5821, .cells [.int .i64 0, .int .i64 0, .int .i64 0, .sl .nl []])], [(ob_5824, .cells [.int .i64 1, .int .i64 0, .int .i64 0, .sl tk_5931 (c_5930.map Node.c)])]]) ([.cap t_5982 4, .cap t_5980 4])) rfl (w_append (objs := List.flatten [[(ob_5821, .cells [.int .i64 0, .int .i64 0, .int .i64 0, .sl .nl []])], [(ob_5824, .cells [.int .i64 1, .int .i64 0, .int .i64 0, .sl tk_5931 (c_5930.map Node.c)])]]) (tks := [.cap t_5980 4, tk_5931]) (i := 1) rfl el34 rfl rfl hg_5932 rfl (elemsOK_map Node.c_ok _) (by have := room_some hr_5981; simpa using this) (Nat.le_of_ble_eq_true rfl) (fun t => ⟨t, by simp only [List.map_append, List.map_nil, List.nil_append], rfl⟩)) (.inl rfl) (by kernel_rfl) rfl ?_
          rintro _ _ ⟨t_5982, rfl, rfl⟩
          refine VA.t (i := 15) (v := .ptr ob_5824 3) rfl (t_fieldAddr_ptr rfl fi36_3 rfl rfl) (.inl rfl) (by kernel_rfl) (VA.w (i := 16) (fun v H' => .any = v ∧ H' = hq ([[(ob_5821, .cells [.int .i64 0, .int .i64 0, .int .i64 0, .sl .nl []])], [(ob_5824, .cells [.int .i64 1, .int .i64 0, .int .i64 0, .sl (.cap t_5982 4) ((c_5930 ++ ([Node.mk 0 c_5961.x0 c_5961.x1 []])).map Node.c)])]]) ([.cap t_5982 4, .cap t_5980 4])) rfl (w_store_q (i := 1) rfl sz34 rfl rfl rfl rfl rfl (Nat.le_of_ble_eq_true rfl) ⟨rfl, rfl⟩) (.inl rfl) (by kernel_rfl) rfl ?_)
          rintro _ _ ⟨rfl, rfl⟩
          refine VA.done (by kernel_rfl) (blockQ_normal (thenQ_normal (VW.subK (.c 0 rfl (.c 2 rfl (.c 3 rfl (.c 4 rfl .n)))) rfl (VW.hsub (A := hq ([[(ob_5821, .cells [.int .i64 0, .int .i64 0, .int .i64 0, .sl .nl []])], [(ob_5824, .cells [.int .i64 1, .int .i64 0, .int .i64 0, .sl (.cap t_5982 4) ((c_5930 ++ ([Node.mk 0 c_5961.x0 c_5961.x1 []])).map Node.c)])]]) ([.cap t_5982 4])) (hq_sub (.cons_cons _ (.cons_cons _ .slnil)) (.cons_cons _ (.cons _ .slnil))) (VW.region (VO.t (t_move rfl rfl) rfl rfl (VO.t (v := .int .i64 (w64 (i_5933 + 1))) (t_add rfl rfl (fun _ _ => rfl) rfl) rfl rfl (VO.t (v := .int .i64 (w64 (i_5933 + 1))) (t_assign rfl rfl) rfl rfl (VO.nil ?_)))))))))
          refine thenQ_normal (VL.round ?_)
          refine VW.subK (.c 0 rfl (.c 2 rfl (.c 3 rfl (.c 4 rfl .n)))) rfl ?_
          exact ih _ _ _ h ob_5821 ob_5824 (.cap t_5982 4) (.inr ⟨_, rfl⟩) hx0
  · replace h := iteF h hc_5960
    refine VW.subK (.c 2 rfl (.c 3 rfl .n)) rfl (VW.exit (thenQ_exit (thenQ_exit ?_)))
    have h := Option.some.inj h
    subst h
    exact hx0 _ tk_5931 rfl hg_5932

theorem ref03_As_ok (a0 : List Pr) (r : Node) (h : PL.ref03_As a0 = some r) :
    VCalls Try.prog 50 [.sl .fz (a0.map Pr.c)] (hq [] []) (fun v H => .agg [.int .i64 r.Op, .int .i64 r.Lo, .int .i64 r.Hi, .sl .fz (r.Kids.map Node.c)] = v ∧ H = hq [] []) := by
  unfold PL.ref03_As at h
  refine VCalls.of_cell 34 2 36 Try.func50 rfl rfl rfl (Nat.le_of_ble_eq_true rfl) (VW.subK (.c 0 rfl .n) rfl (VW.seq (VW.region (VO.w (fun v H' => ∃ ob_5821, .ptr ob_5821 0 = v ∧ H' = hq ([[(ob_5821, .cells [.int .i64 0, .int .i64 0, .int .i64 0, .sl .nl []])]]) []) (w_alloc_q rfl zt36 (fun ob => ⟨ob, rfl, rfl⟩)) rfl rfl ?_))))
  rintro _ _ ⟨ob_5821, rfl, rfl⟩
  refine VO.nil (thenQ_normal (VW.seq (VW.region (VO.t (v := .agg [.int .i64 4, .int .i64 0, .int .i64 0, .sl .nl []]) (t_build rfl st36 ⟨.int .i64 4, _, rfl, (fun _ _ => rfl), rfl, rfl⟩ rfl) rfl rfl (VO.t (v := .agg [.int .i64 4, .int .i64 0, .int .i64 0, .sl .nl []]) (t_build rfl st36 ⟨.int .i64 4, _, rfl, (fun _ _ => rfl), rfl, rfl⟩ rfl) rfl rfl (VO.weak (d := 5) (v' := .agg [.int .i64 4, .int .i64 0, .int .i64 0, .sl .fz []]) rfl (VLe.agg ⟨VLe.refl _, VLe.refl _, VLe.refl _, VLe.sl _ _, trivial⟩) (VO.weak (d := 6) (v' := .agg [.int .i64 4, .int .i64 0, .int .i64 0, .sl .fz []]) rfl (VLe.agg ⟨VLe.refl _, VLe.refl _, VLe.refl _, VLe.sl _ _, trivial⟩) (VO.w (fun v H' => ∃ t_5822, .sl (.cap t_5822 4) (([Node.mk 4 0 0 [], Node.mk 4 0 0 []]).map Node.c) = v ∧ H' = hq ([[(ob_5821, .cells [.int .i64 0, .int .i64 0, .int .i64 0, .sl .nl []])]]) ([.cap t_5822 4])) (w_buildSlice (l := [[.int .i64 4, .int .i64 0, .int .i64 0, .sl .fz []], [.int .i64 4, .int .i64 0, .int .i64 0, .sl .fz []]]) rfl el34 ⟨rfl, _, _, rfl, rfl, rfl, rfl, rfl, _, _, rfl, rfl, rfl, rfl, rfl⟩ rfl (Nat.le_of_ble_eq_true rfl) (fun tk => ⟨tk, by simp only [List.map_cons, List.map_nil, Node.c_eq], rfl⟩)) rfl rfl ?_))))))))
  rintro _ _ ⟨t_5822, rfl, rfl⟩
  refine VO.t (v := .agg [.int .i64 3, .int .i64 0, .int .i64 0, .sl (.cap t_5822 4) (([Node.mk 4 0 0 [], Node.mk 4 0 0 []]).map Node.c)]) (t_build rfl st36 ⟨.int .i64 3, _, rfl, (fun _ _ => rfl), rfl, _, _, rfl, rfl, rfl, rfl⟩ rfl) rfl rfl (VO.weak (d := 8) (v' := .agg [.int .i64 3, .int .i64 0, .int .i64 0, .sl .fz (([Node.mk 4 0 0 [], Node.mk 4 0 0 []]).map Node.c)]) rfl (VLe.agg ⟨VLe.refl _, VLe.refl _, VLe.refl _, VLe.sl _ _, trivial⟩) (VO.w (fun v H' => ∃ t_5823, .sl (.cap t_5823 4) (([Node.mk 3 0 0 ([Node.mk 4 0 0 [], Node.mk 4 0 0 []])]).map Node.c) = v ∧ H' = hq ([[(ob_5821, .cells [.int .i64 0, .int .i64 0, .int .i64 0, .sl .nl []])]]) ([.cap t_5823 4, .cap t_5822 4])) (w_buildSlice (l := [[.int .i64 3, .int .i64 0, .int .i64 0, .sl .fz (([Node.mk 4 0 0 [], Node.mk 4 0 0 []]).map Node.c)]]) rfl el34 ⟨rfl, _, _, rfl, rfl, rfl, rfl, rfl⟩ rfl (Nat.le_of_ble_eq_true rfl) (fun tk => ⟨tk, by simp only [List.map_cons, List.map_nil, Node.c_eq], rfl⟩)) rfl rfl ?_))
  rintro _ _ ⟨t_5823, rfl, rfl⟩
  refine VO.t (v := .agg [.int .i64 1, .int .i64 0, .int .i64 0, .sl (.cap t_5823 4) (([Node.mk 3 0 0 ([Node.mk 4 0 0 [], Node.mk 4 0 0 []])]).map Node.c)]) (t_build rfl st36 ⟨.int .i64 1, _, rfl, (fun _ _ => rfl), rfl, _, _, rfl, rfl, rfl, rfl⟩ rfl) rfl rfl (VO.w (fun v H' => ∃ ob_5824, .ptr ob_5824 0 = v ∧ H' = hq ([[(ob_5824, .cells [.int .i64 0, .int .i64 0, .int .i64 0, .sl .nl []])], [(ob_5821, .cells [.int .i64 0, .int .i64 0, .int .i64 0, .sl .nl []])]]) ([.cap t_5823 4, .cap t_5822 4])) (w_alloc_q rfl zt36 (fun ob => ⟨ob, rfl, rfl⟩)) rfl rfl ?_)
  rintro _ _ ⟨ob_5824, rfl, rfl⟩
  refine VO.w (fun v H' => .any = v ∧ H' = hq ([[(ob_5824, .cells [.int .i64 1, .int .i64 0, .int .i64 0, .sl (.cap t_5823 4) (([Node.mk 3 0 0 ([Node.mk 4 0 0 [], Node.mk 4 0 0 []])]).map Node.c)])], [(ob_5821, .cells [.int .i64 0, .int .i64 0, .int .i64 0, .sl .nl []])]]) ([.cap t_5823 4, .cap t_5822 4])) (w_store_q (i := 0) rfl sz36 rfl rfl rfl rfl rfl (Nat.le_of_ble_eq_true rfl) ⟨rfl, rfl⟩) rfl rfl ?_
  rintro _ _ ⟨rfl, rfl⟩
  refine VO.nil (thenQ_normal (VW.subK (.c 0 rfl (.c 2 rfl (.c 3 rfl .n))) rfl (VW.hsub (A := hq ([[(ob_5824, .cells [.int .i64 1, .int .i64 0, .int .i64 0, .sl (.cap t_5823 4) (([Node.mk 3 0 0 ([Node.mk 4 0 0 [], Node.mk 4 0 0 []])]).map Node.c)])], [(ob_5821, .cells [.int .i64 0, .int .i64 0, .int .i64 0, .sl .nl []])]]) ([.cap t_5823 4])) (hq_sub (.cons_cons _ (.cons_cons _ .slnil)) (.cons_cons _ (.cons _ .slnil))) (VW.seq (VW.seq (VW.region (VO.t (v := .int .i64 0) (t_assign rfl (fun _ _ => rfl)) rfl rfl (VO.nil (thenQ_normal ?_)))))))))
  refine VW.block (VW.subK (.c 0 rfl (.c 2 rfl (.c 3 rfl (.c 4 rfl .n)))) rfl (VW.frontS 0 rfl (VW.frontS 1 rfl ?_)))
  obtain ⟨o_5983, hx_5984, h⟩ := obind h
  refine VW.loopL (ref03_As.l0_ok a0 _ _ _ hx_5984 ob_5821 ob_5824 (.cap t_5823 4) (.inr ⟨_, rfl⟩) ?_)
  · intro c_5957 tk_5958 ho_ hg_5959
    subst ho_
    try dsimp only at h
    refine blockQ_hit (thenQ_normal (VW.seq (VW.region (VO.r (v := .agg [.int .i64 1, .int .i64 0, .int .i64 0, .sl tk_5958 (c_5957.map Node.c)]) (r_load_q (i := 1) rfl sz36 rfl rfl rfl) rfl rfl (VO.w (fun v H' => .any = v ∧ H' = hq ([[(ob_5821, .cells [.int .i64 1, .int .i64 0, .int .i64 0, .sl tk_5958 (c_5957.map Node.c)])], [(ob_5824, .cells [.int .i64 1, .int .i64 0, .int .i64 0, .sl tk_5958 (c_5957.map Node.c)])]]) ([tk_5958])) (w_store_q (i := 0) rfl sz36 rfl rfl rfl rfl rfl (Nat.le_of_ble_eq_true rfl) ⟨rfl, rfl⟩) rfl rfl ?_)))))
    rintro _ _ ⟨rfl, rfl⟩
    refine VO.nil (thenQ_normal (VW.subK (.c 2 rfl .n) rfl (VW.hsub (A := hq ([[(ob_5821, .cells [.int .i64 1, .int .i64 0, .int .i64 0, .sl tk_5958 (c_5957.map Node.c)])]]) ([tk_5958])) (hq_sub (.cons_cons _ (.cons _ .slnil)) (.cons_cons _ .slnil)) (VW.ret ?_))))
    have h := Option.some.inj h
    subst h
    exact ⟨.inr rfl, rfl, _, _, 0, _, _, _, _, .agg [.int .i64 ((Node.mk 1 0 0 c_5957).Op), .int .i64 ((Node.mk 1 0 0 c_5957).Lo), .int .i64 ((Node.mk 1 0 0 c_5957).Hi), .sl .fz (((Node.mk 1 0 0 c_5957).Kids).map Node.c)], hq [] [], rfl, rfl, sz36, rfl, VLe.agg ⟨VLe.refl _, VLe.refl _, VLe.refl _, VLe.sl _ _, trivial⟩, hq_sub (.cons _ .slnil) (.cons _ .slnil), rfl, rfl⟩

theorem ref03_two_ok (a0 : Int) (a1 : List Pr) (a2 : List Pr) (r : List Pr × Int) (h : PL.ref03_two a0 a1 a2 = some r) :
    VCalls Try.prog 31 [.int .i64 a0, .sl .fz (a1.map Pr.c), .sl .fz (a2.map Pr.c)] (hq [] []) (fun v H => .tup [.sl .fz (r.1.map Pr.c), .int .i64 r.2] = v ∧ H = hq [] []) := by
  unfold PL.ref03_two at h
  refine VCalls.of_body 27 [6, 7] Try.func31 rfl rfl rfl (Nat.le_of_ble_eq_true rfl) (VW.subK (.c 0 rfl (.c 1 rfl (.c 2 rfl .n))) rfl (VW.seq (VW.region (VO.t (v := .sl .nl []) (t_assign rfl (fun _ _ => .inl ⟨rfl, .inl rfl⟩)) rfl rfl (VO.t (v := .int .i64 0) (t_assign rfl (fun _ _ => rfl)) rfl rfl (VO.nil (thenQ_normal (VW.subK (.c 0 rfl (.c 1 rfl (.c 2 rfl .n))) rfl (VW.seq ?_)))))))))
  refine VW.seq (VW.region (VO.t (t_move rfl rfl) rfl rfl ?_))
  obtain ⟨rv_5985, hx_5986, h⟩ := obind h
  refine VO.w (fun v H' => .bool rv_5985 = v ∧ H' = hq [] []) (w_call_q (sa := []) (sg := []) (tks := []) rfl fn19 rfl ⟨_, _, rfl, rfl, rfl⟩ (ref03_Valid_ok _ _ hx_5986) (by rintro v H' ⟨rfl, rfl⟩; exact ⟨[], rfl, rfl, rfl⟩)) rfl rfl ?_
  rintro _ _ ⟨rfl, rfl⟩
  refine VO.t (v := .bool (!rv_5985)) (t_not rfl rfl rfl) rfl rfl (VO.t (t_move rfl rfl) rfl rfl ?_)
  refine VO.caseB (d := 11) (b := (!rv_5985)) rfl (fun hc_5987 => ?_) (fun hc_5987 => ?_)
  · replace h := iteT h hc_5987
    refine VO.gskip rfl rfl rfl rfl rfl (VO.gskip rfl rfl rfl rfl rfl (VO.gskip rfl rfl rfl rfl rfl (VO.t (v := .bool true) (t_pick (b := true) rfl rfl (fun _ => (fun _ _ => rfl)) (fun h => by cases h)) rfl rfl (VO.nil (thenQ_normal (VW.subK (.c 0 rfl (.c 1 rfl (.c 2 rfl (.c 15 rfl .n)))) rfl (VW.condT rfl (VW.seq (VW.region ?_)))))))))
    refine VO.t (v := .sl .nl []) (t_assign rfl (fun _ _ => .inl ⟨rfl, .inl rfl⟩)) rfl rfl (VO.t (v := .int .i64 1) (t_assign rfl (fun _ _ => rfl)) rfl rfl (VO.nil (thenQ_normal (VW.subK (.c 6 rfl (.c 7 rfl .n)) rfl (VW.ret (thenQ_ret ?_))))))
    have h := Option.some.inj h
    subst h
    exact ⟨.inr rfl, rfl, _, .tup [.sl .fz [], .int .i64 1], hq [] [], ⟨_, _, rfl, rfl, rfl⟩, VLe.tup ⟨VLe.sl _ _, VLe.refl _, trivial⟩, hq_sub .slnil .slnil, rfl, rfl⟩
  · replace h := iteF h hc_5987
    refine VO.gt (v := .sl .fz (a2.map Pr.c)) (t_move rfl rfl) rfl rfl rfl rfl ?_
    obtain ⟨rv_5988, hx_5989, h⟩ := obind h
    refine VO.gw (fun v H' => .bool rv_5988 = v ∧ H' = hq [] []) (w_call_q (sa := []) (sg := []) (tks := []) rfl fn19 rfl ⟨_, _, rfl, rfl, rfl⟩ (ref03_Valid_ok _ _ hx_5989) (by rintro v H' ⟨rfl, rfl⟩; exact ⟨[], rfl, rfl, rfl⟩)) rfl rfl rfl rfl ?_
    rintro _ _ ⟨rfl, rfl⟩
    refine VO.gt (v := .bool (!rv_5988)) (t_not rfl rfl rfl) rfl rfl rfl rfl (VO.t (v := .bool (!rv_5988)) (t_pick (b := false) rfl rfl (fun h => by cases h) (fun _ => rfl)) rfl rfl (VO.nil (thenQ_normal (VW.subK (.c 0 rfl (.c 1 rfl (.c 2 rfl (.c 15 rfl .n)))) rfl ?_))))
    refine VW.cond (b := (!rv_5988)) rfl (fun hc_5990 => ?_) (fun hc_5990 => ?_)
    · replace h := iteT h hc_5990
      refine VW.seq (VW.region (VO.t (v := .sl .nl []) (t_assign rfl (fun _ _ => .inl ⟨rfl, .inl rfl⟩)) rfl rfl (VO.t (v := .int .i64 1) (t_assign rfl (fun _ _ => rfl)) rfl rfl (VO.nil (thenQ_normal (VW.subK (.c 6 rfl (.c 7 rfl .n)) rfl (VW.ret (thenQ_ret ?_))))))))
      have h := Option.some.inj h
      subst h
      exact ⟨.inr rfl, rfl, _, .tup [.sl .fz [], .int .i64 1], hq [] [], ⟨_, _, rfl, rfl, rfl⟩, VLe.tup ⟨VLe.sl _ _, VLe.refl _, trivial⟩, hq_sub .slnil .slnil, rfl, rfl⟩
    · replace h := iteF h hc_5990
      refine VW.skip (thenQ_normal (VW.subK (.c 0 rfl (.c 1 rfl (.c 2 rfl .n))) rfl (VW.seq (VW.region (VO.t (t_move rfl rfl) rfl rfl (VO.t (t_move rfl rfl) rfl rfl ?_))))))
      obtain ⟨rv_5991, hx_5992, h⟩ := obind h
      refine VO.w (fun v H' => .agg [.int .i64 rv_5991.Op, .int .i64 rv_5991.Lo, .int .i64 rv_5991.Hi, .sl .fz (rv_5991.Kids.map Node.c)] = v ∧ H' = hq [] []) (w_call_q (sa := []) (sg := []) (tks := []) rfl fn50 rfl ⟨_, _, rfl, rfl, rfl⟩ (ref03_As_ok _ _ hx_5992) (by rintro v H' ⟨rfl, rfl⟩; exact ⟨[], rfl, rfl, rfl⟩)) rfl rfl ?_
      rintro _ _ ⟨rfl, rfl⟩
      refine VO.t (t_move rfl rfl) rfl rfl ?_
      obtain ⟨rv_5993, hx_5994, h⟩ := obind h
      refine VO.w (fun v H' => .agg [.int .i64 rv_5993.Op, .int .i64 rv_5993.Lo, .int .i64 rv_5993.Hi, .sl .fz (rv_5993.Kids.map Node.c)] = v ∧ H' = hq [] []) (w_call_q (sa := []) (sg := []) (tks := []) rfl fn50 rfl ⟨_, _, rfl, rfl, rfl⟩ (ref03_As_ok _ _ hx_5994) (by rintro v H' ⟨rfl, rfl⟩; exact ⟨[], rfl, rfl, rfl⟩)) rfl rfl ?_
      rintro _ _ ⟨rfl, rfl⟩
      refine VO.w (fun v H' => ∃ t_5995, .sl (.cap t_5995 4) (([rv_5991, rv_5993]).map Node.c) = v ∧ H' = hq [] ([.cap t_5995 4])) (w_buildSlice (l := [[.int .i64 rv_5991.Op, .int .i64 rv_5991.Lo, .int .i64 rv_5991.Hi, .sl .fz (rv_5991.Kids.map Node.c)], [.int .i64 rv_5993.Op, .int .i64 rv_5993.Lo, .int .i64 rv_5993.Hi, .sl .fz (rv_5993.Kids.map Node.c)]]) rfl el34 ⟨rfl, _, _, rfl, rfl, rfl, rfl, rfl, _, _, rfl, rfl, rfl, rfl, rfl⟩ rfl (Nat.le_of_ble_eq_true rfl) (fun tk => ⟨tk, by simp only [List.map_cons, List.map_nil, Node.c_eq], rfl⟩)) rfl rfl ?_
      rintro _ _ ⟨t_5995, rfl, rfl⟩
      refine VO.t (v := .agg [.int .i64 a0, .int .i64 0, .int .i64 0, .sl (.cap t_5995 4) (([rv_5991, rv_5993]).map Node.c)]) (t_build rfl st36 ⟨_, _, rfl, rfl, rfl, _, _, rfl, rfl, rfl, rfl⟩ rfl) rfl rfl (VO.weak (d := 22) (v' := .agg [.int .i64 a0, .int .i64 0, .int .i64 0, .sl .fz (([rv_5991, rv_5993]).map Node.c)]) rfl (VLe.agg ⟨VLe.refl _, VLe.refl _, VLe.refl _, VLe.sl _ _, trivial⟩) ?_)
      obtain ⟨rv_5996, hx_5997, h⟩ := obind h
      refine VO.w (fun v H' => .sl .fz (rv_5996.map Pr.c) = v ∧ H' = hq [] ([.cap t_5995 4])) (w_call_q (sa := []) (sg := []) (tks := [.cap t_5995 4]) rfl fn49 rfl ⟨_, _, rfl, rfl, rfl⟩ (ref03_set_ok _ _ hx_5997) (by rintro v H' ⟨rfl, rfl⟩; exact ⟨[], rfl, rfl, rfl⟩)) rfl rfl ?_
      rintro _ _ ⟨rfl, rfl⟩
      obtain ⟨⟨rv_5998, rv_5999⟩, hx_6000, h⟩ := obind h
      try dsimp only at h
      refine VO.w (fun v H' => .tup [.sl .fz (rv_5998.map Pr.c), .int .i64 rv_5999] = v ∧ H' = hq [] ([.cap t_5995 4])) (w_call_q (sa := []) (sg := []) (tks := [.cap t_5995 4]) rfl fn48 rfl ⟨_, _, rfl, rfl, rfl⟩ (ref03_told_ok _ _ hx_6000) (by rintro v H' ⟨rfl, rfl⟩; exact ⟨[], rfl, rfl, rfl⟩)) rfl rfl ?_
      rintro _ _ ⟨rfl, rfl⟩
      refine VO.t (v := .sl .fz (rv_5998.map Pr.c)) (t_extract rfl rfl rfl) rfl rfl (VO.t (v := .int .i64 rv_5999) (t_extract rfl rfl rfl) rfl rfl (VO.t (v := .sl .fz (rv_5998.map Pr.c)) (t_assign rfl rfl) rfl rfl (VO.t (v := .int .i64 rv_5999) (t_assign rfl rfl) rfl rfl (VO.nil (thenQ_normal (VW.subK (.c 6 rfl (.c 7 rfl .n)) rfl (VW.hsub (A := hq [] []) (hq_sub .slnil (.cons _ .slnil)) (VW.ret ?_))))))))
      have h := Option.some.inj h
      subst h
      exact ⟨.inr rfl, rfl, _, .tup [.sl .fz (rv_5998.map Pr.c), .int .i64 rv_5999], hq [] [], ⟨_, _, rfl, rfl, rfl⟩, VLe.tup ⟨VLe.refl _, VLe.refl _, trivial⟩, hq_sub .slnil .slnil, rfl, rfl⟩

theorem ref03_Union_ok (a0 : List Pr) (a1 : List Pr) (r : List Pr × Int) (h : PL.ref03_Union a0 a1 = some r) :
    VCalls Try.prog 8 [.sl .fz (a0.map Pr.c), .sl .fz (a1.map Pr.c)] (hq [] []) (fun v H => .tup [.sl .fz (r.1.map Pr.c), .int .i64 r.2] = v ∧ H = hq [] []) := by
  unfold PL.ref03_Union at h
  refine VCalls.of_body 11 [4, 5] Try.func8 rfl rfl rfl (Nat.le_of_ble_eq_true rfl) (VW.subK (.c 0 rfl (.c 1 rfl .n)) rfl (VW.seq (VW.region (VO.t (v := .sl .nl []) (t_assign rfl (fun _ _ => .inl ⟨rfl, .inl rfl⟩)) rfl rfl (VO.t (v := .int .i64 0) (t_assign rfl (fun _ _ => rfl)) rfl rfl (VO.nil (thenQ_normal (VW.subK (.c 0 rfl (.c 1 rfl .n)) rfl (VW.seq ?_)))))))))
  refine VW.region (VO.t (t_move rfl rfl) rfl rfl (VO.t (t_move rfl rfl) rfl rfl ?_))
  obtain ⟨⟨rv_6001, rv_6002⟩, hx_6003, h⟩ := obind h
  try dsimp only at h
  refine VO.w (fun v H' => .tup [.sl .fz (rv_6001.map Pr.c), .int .i64 rv_6002] = v ∧ H' = hq [] []) (w_call_q (sa := []) (sg := []) (tks := []) rfl fn31 rfl ⟨.int .i64 1, _, rfl, (fun _ _ => rfl), _, _, rfl, rfl, _, _, rfl, rfl, rfl⟩ (ref03_two_ok _ _ _ _ hx_6003) (by rintro v H' ⟨rfl, rfl⟩; exact ⟨[], rfl, rfl, rfl⟩)) rfl rfl ?_
  rintro _ _ ⟨rfl, rfl⟩
  refine VO.t (v := .sl .fz (rv_6001.map Pr.c)) (t_extract rfl rfl rfl) rfl rfl (VO.t (v := .int .i64 rv_6002) (t_extract rfl rfl rfl) rfl rfl (VO.t (v := .sl .fz (rv_6001.map Pr.c)) (t_assign rfl rfl) rfl rfl (VO.t (v := .int .i64 rv_6002) (t_assign rfl rfl) rfl rfl (VO.nil (thenQ_normal (VW.subK (.c 4 rfl (.c 5 rfl .n)) rfl (VW.ret ?_)))))))
  have h := Option.some.inj h
  subst h
  exact ⟨.inr rfl, rfl, _, .tup [.sl .fz (rv_6001.map Pr.c), .int .i64 rv_6002], hq [] [], ⟨_, _, rfl, rfl, rfl⟩, VLe.tup ⟨VLe.refl _, VLe.refl _, trivial⟩, hq_sub .slnil .slnil, rfl, rfl⟩

theorem set_Meet_ok (a0 : List Pr) (a1 : List Pr) (r : List Pr × Int) (h : PL.set_Meet a0 a1 = some r) :
    VCalls Try.prog 10 [.sl .fz (a0.map Pr.c), .sl .fz (a1.map Pr.c)] (hq [] []) (fun v H => .tup [.sl .fz (r.1.map Pr.c), .int .i64 r.2] = v ∧ H = hq [] []) := by
  unfold PL.set_Meet at h
  refine VCalls.of_body 11 [4, 5] Try.func10 rfl rfl rfl (Nat.le_of_ble_eq_true rfl) (VW.subK (.c 0 rfl (.c 1 rfl .n)) rfl (VW.seq (VW.region (VO.t (v := .sl .nl []) (t_assign rfl (fun _ _ => .inl ⟨rfl, .inl rfl⟩)) rfl rfl (VO.t (v := .int .i64 0) (t_assign rfl (fun _ _ => rfl)) rfl rfl (VO.nil (thenQ_normal (VW.subK (.c 0 rfl (.c 1 rfl .n)) rfl (VW.seq ?_)))))))))
  refine VW.region (VO.t (t_move rfl rfl) rfl rfl (VO.t (t_move rfl rfl) rfl rfl ?_))
  obtain ⟨⟨rv_6004, rv_6005⟩, hx_6006, h⟩ := obind h
  try dsimp only at h
  refine VO.w (fun v H' => .tup [.sl .fz (rv_6004.map Pr.c), .int .i64 rv_6005] = v ∧ H' = hq [] []) (w_call_q (sa := [[]]) (sg := []) (tks := []) rfl fn27 rfl ⟨_, _, rfl, rfl, _, _, rfl, rfl, _, _, rfl, rfl, rfl⟩ (set_both_ok _ _ _ _ hx_6006 32 [] [] [] fn32 (fun y0 y1 z h => set_common_ok y0 y1 z h)) (by rintro v H' ⟨rfl, rfl⟩; exact ⟨[[]], rfl, rfl, rfl⟩)) rfl rfl ?_
  rintro _ _ ⟨rfl, rfl⟩
  refine VO.t (v := .sl .fz (rv_6004.map Pr.c)) (t_extract rfl rfl rfl) rfl rfl (VO.t (v := .int .i64 rv_6005) (t_extract rfl rfl rfl) rfl rfl (VO.t (v := .sl .fz (rv_6004.map Pr.c)) (t_assign rfl rfl) rfl rfl (VO.t (v := .int .i64 rv_6005) (t_assign rfl rfl) rfl rfl (VO.nil (thenQ_normal (VW.subK (.c 4 rfl (.c 5 rfl .n)) rfl (VW.ret ?_)))))))
  have h := Option.some.inj h
  subst h
  exact ⟨.inr rfl, rfl, _, .tup [.sl .fz (rv_6004.map Pr.c), .int .i64 rv_6005], hq [] [], ⟨_, _, rfl, rfl, rfl⟩, VLe.tup ⟨VLe.refl _, VLe.refl _, trivial⟩, hq_sub .slnil .slnil, rfl, rfl⟩

theorem ref03_Meet_ok (a0 : List Pr) (a1 : List Pr) (r : List Pr × Int) (h : PL.ref03_Meet a0 a1 = some r) :
    VCalls Try.prog 11 [.sl .fz (a0.map Pr.c), .sl .fz (a1.map Pr.c)] (hq [] []) (fun v H => .tup [.sl .fz (r.1.map Pr.c), .int .i64 r.2] = v ∧ H = hq [] []) := by
  unfold PL.ref03_Meet at h
  refine VCalls.of_body 11 [4, 5] Try.func11 rfl rfl rfl (Nat.le_of_ble_eq_true rfl) (VW.subK (.c 0 rfl (.c 1 rfl .n)) rfl (VW.seq (VW.region (VO.t (v := .sl .nl []) (t_assign rfl (fun _ _ => .inl ⟨rfl, .inl rfl⟩)) rfl rfl (VO.t (v := .int .i64 0) (t_assign rfl (fun _ _ => rfl)) rfl rfl (VO.nil (thenQ_normal (VW.subK (.c 0 rfl (.c 1 rfl .n)) rfl (VW.seq ?_)))))))))
  refine VW.region (VO.t (t_move rfl rfl) rfl rfl (VO.t (t_move rfl rfl) rfl rfl ?_))
  obtain ⟨⟨rv_6007, rv_6008⟩, hx_6009, h⟩ := obind h
  try dsimp only at h
  refine VO.w (fun v H' => .tup [.sl .fz (rv_6007.map Pr.c), .int .i64 rv_6008] = v ∧ H' = hq [] []) (w_call_q (sa := []) (sg := []) (tks := []) rfl fn31 rfl ⟨.int .i64 2, _, rfl, (fun _ _ => rfl), _, _, rfl, rfl, _, _, rfl, rfl, rfl⟩ (ref03_two_ok _ _ _ _ hx_6009) (by rintro v H' ⟨rfl, rfl⟩; exact ⟨[], rfl, rfl, rfl⟩)) rfl rfl ?_
  rintro _ _ ⟨rfl, rfl⟩
  refine VO.t (v := .sl .fz (rv_6007.map Pr.c)) (t_extract rfl rfl rfl) rfl rfl (VO.t (v := .int .i64 rv_6008) (t_extract rfl rfl rfl) rfl rfl (VO.t (v := .sl .fz (rv_6007.map Pr.c)) (t_assign rfl rfl) rfl rfl (VO.t (v := .int .i64 rv_6008) (t_assign rfl rfl) rfl rfl (VO.nil (thenQ_normal (VW.subK (.c 4 rfl (.c 5 rfl .n)) rfl (VW.ret ?_)))))))
  have h := Option.some.inj h
  subst h
  exact ⟨.inr rfl, rfl, _, .tup [.sl .fz (rv_6007.map Pr.c), .int .i64 rv_6008], hq [] [], ⟨_, _, rfl, rfl, rfl⟩, VLe.tup ⟨VLe.refl _, VLe.refl _, trivial⟩, hq_sub .slnil .slnil, rfl, rfl⟩

theorem set_Except_1_ok (a0 : List Pr) (a1 : List Pr) (r : List Pr) (h : PL.set_Except_1 a0 a1 = some r) :
    VCalls Try.prog 33 [.sl .fz (a0.map Pr.c), .sl .fz (a1.map Pr.c)] (hq [] []) (fun v H => .sl .fz (r.map Pr.c) = v ∧ H = hq [] []) := by
  unfold PL.set_Except_1 at h
  refine VCalls.of_body 9 [4] Try.func33 rfl rfl rfl (Nat.le_of_ble_eq_true rfl) (VW.subK (.c 0 rfl (.c 1 rfl .n)) rfl (VW.seq (VW.region (VO.t (v := .sl .nl []) (t_assign rfl (fun _ _ => .inl ⟨rfl, .inl rfl⟩)) rfl rfl (VO.nil (thenQ_normal (VW.subK (.c 0 rfl (.c 1 rfl .n)) rfl (VW.seq (VW.region ?_)))))))))
  refine VO.t (t_move rfl rfl) rfl rfl (VO.t (t_move rfl rfl) rfl rfl ?_)
  obtain ⟨rv_6010, hx_6011, h⟩ := obind h
  refine VO.w (fun v H' => .sl .fz (rv_6010.map Pr.c) = v ∧ H' = hq [] []) (w_call_q (sa := []) (sg := []) (tks := []) rfl fn34 rfl ⟨_, _, rfl, rfl, rfl⟩ (set_outside_ok _ _ hx_6011) (by rintro v H' ⟨rfl, rfl⟩; exact ⟨[], rfl, rfl, rfl⟩)) rfl rfl ?_
  rintro _ _ ⟨rfl, rfl⟩
  obtain ⟨rv_6012, hx_6013, h⟩ := obind h
  refine VO.w (fun v H' => .sl .fz (rv_6012.map Pr.c) = v ∧ H' = hq [] []) (w_call_q (sa := []) (sg := []) (tks := []) rfl fn32 rfl ⟨_, _, rfl, rfl, _, _, rfl, rfl, rfl⟩ (set_common_ok _ _ _ hx_6013) (by rintro v H' ⟨rfl, rfl⟩; exact ⟨[], rfl, rfl, rfl⟩)) rfl rfl ?_
  rintro _ _ ⟨rfl, rfl⟩
  refine VO.t (v := .sl .fz (rv_6012.map Pr.c)) (t_assign rfl rfl) rfl rfl (VO.nil (thenQ_normal (VW.subK (.c 4 rfl .n) rfl (VW.ret ?_))))
  have h := Option.some.inj h
  subst h
  exact ⟨.inr rfl, rfl, _, .sl .fz (rv_6012.map Pr.c), hq [] [], rfl, VLe.refl _, hq_sub .slnil .slnil, rfl, rfl⟩

theorem set_Except_ok (a0 : List Pr) (a1 : List Pr) (r : List Pr × Int) (h : PL.set_Except a0 a1 = some r) :
    VCalls Try.prog 12 [.sl .fz (a0.map Pr.c), .sl .fz (a1.map Pr.c)] (hq [] []) (fun v H => .tup [.sl .fz (r.1.map Pr.c), .int .i64 r.2] = v ∧ H = hq [] []) := by
  unfold PL.set_Except at h
  refine VCalls.of_body 11 [4, 5] Try.func12 rfl rfl rfl (Nat.le_of_ble_eq_true rfl) (VW.subK (.c 0 rfl (.c 1 rfl .n)) rfl (VW.seq (VW.region (VO.t (v := .sl .nl []) (t_assign rfl (fun _ _ => .inl ⟨rfl, .inl rfl⟩)) rfl rfl (VO.t (v := .int .i64 0) (t_assign rfl (fun _ _ => rfl)) rfl rfl (VO.nil (thenQ_normal (VW.subK (.c 0 rfl (.c 1 rfl .n)) rfl (VW.seq ?_)))))))))
  refine VW.region (VO.t (t_move rfl rfl) rfl rfl (VO.t (t_move rfl rfl) rfl rfl ?_))
  obtain ⟨⟨rv_6014, rv_6015⟩, hx_6016, h⟩ := obind h
  try dsimp only at h
  refine VO.w (fun v H' => .tup [.sl .fz (rv_6014.map Pr.c), .int .i64 rv_6015] = v ∧ H' = hq [] []) (w_call_q (sa := [[]]) (sg := []) (tks := []) rfl fn27 rfl ⟨_, _, rfl, rfl, _, _, rfl, rfl, _, _, rfl, rfl, rfl⟩ (set_both_ok _ _ _ _ hx_6016 33 [] [] [] fn33 (fun y0 y1 z h => set_Except_1_ok y0 y1 z h)) (by rintro v H' ⟨rfl, rfl⟩; exact ⟨[[]], rfl, rfl, rfl⟩)) rfl rfl ?_
  rintro _ _ ⟨rfl, rfl⟩
  refine VO.t (v := .sl .fz (rv_6014.map Pr.c)) (t_extract rfl rfl rfl) rfl rfl (VO.t (v := .int .i64 rv_6015) (t_extract rfl rfl rfl) rfl rfl (VO.t (v := .sl .fz (rv_6014.map Pr.c)) (t_assign rfl rfl) rfl rfl (VO.t (v := .int .i64 rv_6015) (t_assign rfl rfl) rfl rfl (VO.nil (thenQ_normal (VW.subK (.c 4 rfl (.c 5 rfl .n)) rfl (VW.ret ?_)))))))
  have h := Option.some.inj h
  subst h
  exact ⟨.inr rfl, rfl, _, .tup [.sl .fz (rv_6014.map Pr.c), .int .i64 rv_6015], hq [] [], ⟨_, _, rfl, rfl, rfl⟩, VLe.tup ⟨VLe.refl _, VLe.refl _, trivial⟩, hq_sub .slnil .slnil, rfl, rfl⟩

theorem ref03_Except_ok (a0 : List Pr) (a1 : List Pr) (r : List Pr × Int) (h : PL.ref03_Except a0 a1 = some r) :
    VCalls Try.prog 13 [.sl .fz (a0.map Pr.c), .sl .fz (a1.map Pr.c)] (hq [] []) (fun v H => .tup [.sl .fz (r.1.map Pr.c), .int .i64 r.2] = v ∧ H = hq [] []) := by
  unfold PL.ref03_Except at h
  refine VCalls.of_body 11 [4, 5] Try.func13 rfl rfl rfl (Nat.le_of_ble_eq_true rfl) (VW.subK (.c 0 rfl (.c 1 rfl .n)) rfl (VW.seq (VW.region (VO.t (v := .sl .nl []) (t_assign rfl (fun _ _ => .inl ⟨rfl, .inl rfl⟩)) rfl rfl (VO.t (v := .int .i64 0) (t_assign rfl (fun _ _ => rfl)) rfl rfl (VO.nil (thenQ_normal (VW.subK (.c 0 rfl (.c 1 rfl .n)) rfl (VW.seq ?_)))))))))
  refine VW.region (VO.t (t_move rfl rfl) rfl rfl (VO.t (t_move rfl rfl) rfl rfl ?_))
  obtain ⟨⟨rv_6017, rv_6018⟩, hx_6019, h⟩ := obind h
  try dsimp only at h
  refine VO.w (fun v H' => .tup [.sl .fz (rv_6017.map Pr.c), .int .i64 rv_6018] = v ∧ H' = hq [] []) (w_call_q (sa := []) (sg := []) (tks := []) rfl fn31 rfl ⟨.int .i64 3, _, rfl, (fun _ _ => rfl), _, _, rfl, rfl, _, _, rfl, rfl, rfl⟩ (ref03_two_ok _ _ _ _ hx_6019) (by rintro v H' ⟨rfl, rfl⟩; exact ⟨[], rfl, rfl, rfl⟩)) rfl rfl ?_
  rintro _ _ ⟨rfl, rfl⟩
  refine VO.t (v := .sl .fz (rv_6017.map Pr.c)) (t_extract rfl rfl rfl) rfl rfl (VO.t (v := .int .i64 rv_6018) (t_extract rfl rfl rfl) rfl rfl (VO.t (v := .sl .fz (rv_6017.map Pr.c)) (t_assign rfl rfl) rfl rfl (VO.t (v := .int .i64 rv_6018) (t_assign rfl rfl) rfl rfl (VO.nil (thenQ_normal (VW.subK (.c 4 rfl (.c 5 rfl .n)) rfl (VW.ret ?_)))))))
  have h := Option.some.inj h
  subst h
  exact ⟨.inr rfl, rfl, _, .tup [.sl .fz (rv_6017.map Pr.c), .int .i64 rv_6018], hq [] [], ⟨_, _, rfl, rfl, rfl⟩, VLe.tup ⟨VLe.refl _, VLe.refl _, trivial⟩, hq_sub .slnil .slnil, rfl, rfl⟩

theorem ref03_Size.l0_ok (a0 : List Pr) {Q : Exit → Env → HH → Prop} :
    ∀ (n_6044 : Int) (i_6045 : Int) (o : Int), PL.ref03_Size.l0 a0 n_6044 i_6045 = some o →
    ∀ (hx0 : ∀ (n_6048 : Int), n_6048 = o → Q (.exit 0) ⟨[(4, .int .i64 n_6048)], []⟩ (hq [] [])), VW Try.prog 30 (codeAt [1, 1, 1, 0, 1, 0, 0] (bodyOf Try.f15)) (thenQ (VL Try.prog 30 (codeAt [1, 1, 1, 0, 1, 0, 0] (bodyOf Try.f15)) Q) Q) ⟨[(0, .sl .fz (a0.map Pr.c)), (4, .int .i64 n_6044), (5, .int .i64 i_6045)], []⟩ (hq [] []) := by
  refine PL.ref03_Size.l0.partial_correctness a0 (motive := fun n_6044 i_6045 o => ∀ (hx0 : ∀ (n_6048 : Int), n_6048 = o → Q (.exit 0) ⟨[(4, .int .i64 n_6048)], []⟩ (hq [] [])), VW Try.prog 30 (codeAt [1, 1, 1, 0, 1, 0, 0] (bodyOf Try.f15)) (thenQ (VL Try.prog 30 (codeAt [1, 1, 1, 0, 1, 0, 0] (bodyOf Try.f15)) Q) Q) ⟨[(0, .sl .fz (a0.map Pr.c)), (4, .int .i64 n_6044), (5, .int .i64 i_6045)], []⟩ (hq [] [])) ?_
  intro _ ih n_6044 i_6045 o h hx0
  refine VW.seq (VW.seq (VW.region (VO.t (t_move rfl rfl) rfl rfl (VO.t (t_move rfl rfl) rfl rfl (VO.t (v := .int .i64 (a0.length : Int)) (t_len rfl ⟨_, Try.underlying22⟩ rfl (by rw [List.length_map])) rfl rfl (VO.t (v := .bool (decide (i_6045 < (a0.length : Int)))) (t_cmp rfl rfl rfl rfl rfl) rfl rfl (VO.nil (thenQ_normal (VW.subK (.c 0 rfl (.c 4 rfl (.c 5 rfl (.c 12 rfl .n)))) rfl ?_)))))))))
  refine VW.cond (b := (decide (i_6045 < (a0.length : Int)))) rfl (fun hc_6049 => ?_) (fun hc_6049 => ?_)
  · replace h := iteT h hc_6049
    refine VW.skip (thenQ_normal (VW.subK (.c 0 rfl (.c 4 rfl (.c 5 rfl .n))) rfl (VW.seq (VW.block (VW.draw 15 mix rfl (VA.phase (g := 0) [0, 1, 2, 3, 4, 5, 6, 7, 8, 9, 10, 11, 12, 13, 14] 15 (VP.take (i := 0) rfl (TOp.r (t_move rfl rfl)) (.inl rfl) (by kernel_rfl) (VP.take (i := 1) rfl (TOp.r (t_move rfl rfl)) (.inl rfl) (by kernel_rfl) (VP.take (i := 2) rfl (TOp.r (t_move rfl rfl)) (.inl rfl) (by kernel_rfl) ?_)))))))))
    obtain ⟨c_6050, hc_6050, h⟩ := obind h
    refine VP.take (i := 3) (v := .vptr [.int .i64 c_6050.x0, .int .i64 c_6050.x1]) rfl (TOp.r (t_indexAddr rfl sl22 rfl rfl (getI_some hc_6050).1 (map_get (getI_some hc_6050).2 (Pr.c_eq c_6050)) rfl)) (.inl rfl) (by kernel_rfl) (VP.take (i := 4) (v := .vptr [.int .i64 c_6050.x1]) rfl (TOp.r (t_indexAddr_arr rfl ar49 rfl (fun _ _ => rfl) (by decide) (by decide) rfl)) (.inl rfl) (by kernel_rfl) (VP.take (i := 5) (v := .int .i64 c_6050.x1) rfl (r_load_v rfl sz3 rfl rfl) (.inl rfl) (by kernel_rfl) (VP.take (i := 6) (v := .int .i64 (w64 (n_6044 + c_6050.x1))) rfl (TOp.r (t_add rfl rfl rfl rfl)) (.inl rfl) (by kernel_rfl) (VP.take (i := 7) rfl (TOp.r (t_move rfl rfl)) (.inl rfl) (by kernel_rfl) (VP.take (i := 8) rfl (TOp.r (t_move rfl rfl)) (.inl rfl) (by kernel_rfl) (VP.take (i := 9) (v := .vptr [.int .i64 c_6050.x0, .int .i64 c_6050.x1]) rfl (TOp.r (t_indexAddr rfl sl22 rfl rfl (getI_some hc_6050).1 (map_get (getI_some hc_6050).2 (Pr.c_eq c_6050)) rfl)) (.inl rfl) (by kernel_rfl) (VP.take (i := 10) (v := .vptr [.int .i64 c_6050.x0, .int .i64 c_6050.x1]) rfl (TOp.r (t_indexAddr_arr rfl ar49 rfl (fun _ _ => rfl) (by decide) (by decide) rfl)) (.inl rfl) (by kernel_rfl) (VP.take (i := 11) (v := .int .i64 c_6050.x0) rfl (r_load_v rfl sz3 rfl rfl) (.inl rfl) (by kernel_rfl) (VP.take (i := 12) (v := .int .i64 (w64 ((w64 (n_6044 + c_6050.x1)) - c_6050.x0))) rfl (TOp.r (t_sub rfl rfl rfl rfl)) (.inl rfl) (by kernel_rfl) ?_)))))))))
    refine VP.take (i := 13) (v := .int .i64 (w64 ((w64 ((w64 (n_6044 + c_6050.x1)) - c_6050.x0)) + 1))) rfl (TOp.r (t_add rfl rfl (fun _ _ => rfl) rfl)) (.inl rfl) (by kernel_rfl) (VP.take (i := 14) (v := .int .i64 (w64 ((w64 ((w64 (n_6044 + c_6050.x1)) - c_6050.x0)) + 1))) rfl (TOp.r (t_assign rfl rfl)) (.inl rfl) (by kernel_rfl) (VP.done (by kernel_rfl) (VA.done (by kernel_rfl) (blockQ_normal (thenQ_normal (VW.subK (.c 0 rfl (.c 5 rfl (.c 4 rfl .n))) rfl (VW.region (VO.t (t_move rfl rfl) rfl rfl (VO.t (v := .int .i64 (w64 (i_6045 + 1))) (t_add rfl rfl (fun _ _ => rfl) rfl) rfl rfl ?_)))))))))
    refine VO.t (v := .int .i64 (w64 (i_6045 + 1))) (t_assign rfl rfl) rfl rfl (VO.nil (thenQ_normal (VL.round ?_)))
    refine VW.subK (.c 0 rfl (.c 4 rfl (.c 5 rfl .n))) rfl ?_
    exact ih _ _ _ h hx0
  · replace h := iteF h hc_6049
    refine VW.subK (.c 4 rfl .n) rfl (VW.exit (thenQ_exit (thenQ_exit ?_)))
    have h := Option.some.inj h
    subst h
    exact hx0 _ rfl

theorem ref03_Size_ok (a0 : List Pr) (r : Int × Int) (h : PL.ref03_Size a0 = some r) :
    VCalls Try.prog 15 [.sl .fz (a0.map Pr.c)] (hq [] []) (fun v H => .tup [.int .i64 r.1, .int .i64 r.2] = v ∧ H = hq [] []) := by
  unfold PL.ref03_Size at h
  refine VCalls.of_body 30 [2, 3] Try.func15 rfl rfl rfl (Nat.le_of_ble_eq_true rfl) (VW.subK (.c 0 rfl .n) rfl (VW.seq (VW.region (VO.t (v := .int .i64 0) (t_assign rfl (fun _ _ => rfl)) rfl rfl (VO.t (v := .int .i64 0) (t_assign rfl (fun _ _ => rfl)) rfl rfl (VO.nil (thenQ_normal (VW.subK (.c 0 rfl .n) rfl (VW.seq ?_)))))))))
  refine VW.seq (VW.region (VO.t (t_move rfl rfl) rfl rfl ?_))
  obtain ⟨rv_6020, hx_6021, h⟩ := obind h
  refine VO.w (fun v H' => .bool rv_6020 = v ∧ H' = hq [] []) (w_call_q (sa := []) (sg := []) (tks := []) rfl fn19 rfl ⟨_, _, rfl, rfl, rfl⟩ (ref03_Valid_ok _ _ hx_6021) (by rintro v H' ⟨rfl, rfl⟩; exact ⟨[], rfl, rfl, rfl⟩)) rfl rfl ?_
  rintro _ _ ⟨rfl, rfl⟩
  refine VO.t (v := .bool (!rv_6020)) (t_not rfl rfl rfl) rfl rfl (VO.nil (thenQ_normal (VW.subK (.c 0 rfl (.c 8 rfl .n)) rfl ?_)))
  refine VW.cond (b := (!rv_6020)) rfl (fun hc_6022 => ?_) (fun hc_6022 => ?_)
  · replace h := iteT h hc_6022
    refine VW.seq (VW.region (VO.t (v := .int .i64 0) (t_assign rfl (fun _ _ => rfl)) rfl rfl (VO.t (v := .int .i64 1) (t_assign rfl (fun _ _ => rfl)) rfl rfl (VO.nil (thenQ_normal (VW.subK (.c 2 rfl (.c 3 rfl .n)) rfl (VW.ret (thenQ_ret ?_))))))))
    have h := Option.some.inj h
    subst h
    exact ⟨.inr rfl, rfl, _, .tup [.int .i64 0, .int .i64 1], hq [] [], ⟨_, _, rfl, rfl, rfl⟩, VLe.tup ⟨VLe.refl _, VLe.refl _, trivial⟩, hq_sub .slnil .slnil, rfl, rfl⟩
  · replace h := iteF h hc_6022
    refine VW.skip (thenQ_normal (VW.subK (.c 0 rfl .n) rfl (VW.seq (VW.region (VO.t (v := .int .i64 0) (t_assign rfl (fun _ _ => rfl)) rfl rfl (VO.nil (thenQ_normal (VW.seq (VW.seq ?_)))))))))
    refine VW.region (VO.t (v := .int .i64 0) (t_assign rfl (fun _ _ => rfl)) rfl rfl (VO.nil (thenQ_normal (VW.block (VW.subK (.c 0 rfl (.c 4 rfl (.c 5 rfl .n))) rfl ?_)))))
    obtain ⟨o_6051, hx_6052, h⟩ := obind h
    refine VW.loopL (ref03_Size.l0_ok a0 _ _ _ hx_6052 ?_)
    · intro n_6048 ho_
      subst ho_
      try dsimp only at h
      refine blockQ_hit (thenQ_normal (VW.seq (VW.region (VO.t (t_move rfl rfl) rfl rfl (VO.t (v := .int .i64 n_6048) (t_assign rfl rfl) rfl rfl (VO.t (v := .int .i64 0) (t_assign rfl (fun _ _ => rfl)) rfl rfl (VO.nil (thenQ_normal (VW.subK (.c 2 rfl (.c 3 rfl .n)) rfl ?_)))))))))
      refine VW.ret ?_
      have h := Option.some.inj h
      subst h
      exact ⟨.inr rfl, rfl, _, .tup [.int .i64 n_6048, .int .i64 0], hq [] [], ⟨_, _, rfl, rfl, rfl⟩, VLe.tup ⟨VLe.refl _, VLe.refl _, trivial⟩, hq_sub .slnil .slnil, rfl, rfl⟩

theorem set_Hull_ok (a0 : List Pr) (r : Int × Int × Int) (h : PL.set_Hull a0 = some r) :
    VCalls Try.prog 16 [.sl .fz (a0.map Pr.c)] (hq [] []) (fun v H => .tup [.int .i64 r.1, .int .i64 r.2.1, .int .i64 r.2.2] = v ∧ H = hq [] []) := by
  unfold PL.set_Hull at h
  refine VCalls.of_body 24 [2, 3, 4] Try.func16 rfl rfl rfl (Nat.le_of_ble_eq_true rfl) (VW.subK (.c 0 rfl .n) rfl (VW.seq (VW.region (VO.t (v := .int .i64 0) (t_assign rfl (fun _ _ => rfl)) rfl rfl (VO.t (v := .int .i64 0) (t_assign rfl (fun _ _ => rfl)) rfl rfl (VO.t (v := .int .i64 0) (t_assign rfl (fun _ _ => rfl)) rfl rfl (VO.nil (thenQ_normal (VW.subK (.c 0 rfl .n) rfl ?_)))))))))
  refine VW.seq (VW.block (VW.seq (VW.region (VO.t (t_move rfl rfl) rfl rfl ?_))))
  obtain ⟨rv_6053, hx_6054, h⟩ := obind h
  refine VO.w (fun v H' => .bool rv_6053 = v ∧ H' = hq [] []) (w_call_q (sa := []) (sg := []) (tks := []) rfl fn18 rfl ⟨_, _, rfl, rfl, rfl⟩ (set_Valid_ok _ _ hx_6054) (by rintro v H' ⟨rfl, rfl⟩; exact ⟨[], rfl, rfl, rfl⟩)) rfl rfl ?_
  rintro _ _ ⟨rfl, rfl⟩
  refine VO.t (v := .bool (!rv_6053)) (t_not rfl rfl rfl) rfl rfl (VO.t (v := .bool (!rv_6053)) (t_assign rfl rfl) rfl rfl (VO.nil (thenQ_normal (VW.subK (.c 0 rfl (.c 5 rfl .n)) rfl ?_))))
  refine VW.cond (b := (!rv_6053)) rfl (fun hc_6055 => ?_) (fun hc_6055 => ?_)
  · replace h := iteT h hc_6055
    refine VW.seq (VW.region (VO.t (v := .int .i64 0) (t_assign rfl (fun _ _ => rfl)) rfl rfl (VO.t (v := .int .i64 0) (t_assign rfl (fun _ _ => rfl)) rfl rfl (VO.t (v := .int .i64 1) (t_assign rfl (fun _ _ => rfl)) rfl rfl (VO.nil (thenQ_normal (VW.subK (.c 2 rfl (.c 3 rfl (.c 4 rfl .n))) rfl (VW.ret (blockQ_ret ?_)))))))))
    refine thenQ_ret ?_
    have h := Option.some.inj h
    subst h
    exact ⟨.inr rfl, rfl, _, .tup [.int .i64 0, .int .i64 0, .int .i64 1], hq [] [], ⟨_, _, _, rfl, rfl, rfl, rfl⟩, VLe.tup ⟨VLe.refl _, VLe.refl _, VLe.refl _, trivial⟩, hq_sub .slnil .slnil, rfl, rfl⟩
  · replace h := iteF h hc_6055
    refine VW.seq (VW.region (VO.t (t_move rfl rfl) rfl rfl (VO.t (v := .int .i64 (a0.length : Int)) (t_len rfl ⟨_, Try.underlying22⟩ rfl (by rw [List.length_map])) rfl rfl (VO.t (v := .bool ((a0.length : Int) == 0)) (t_cmp rfl rfl rfl (fun _ _ => rfl) rfl) rfl rfl (VO.t (v := .bool ((a0.length : Int) == 0)) (t_assign rfl rfl) rfl rfl (VO.nil (thenQ_normal (VW.subK (.c 0 rfl (.c 9 rfl .n)) rfl ?_))))))))
    refine VW.cond (b := ((a0.length : Int) == 0)) rfl (fun hc_6056 => ?_) (fun hc_6056 => ?_)
    · replace h := iteT h hc_6056
      refine VW.seq (VW.region (VO.t (v := .int .i64 0) (t_assign rfl (fun _ _ => rfl)) rfl rfl (VO.t (v := .int .i64 0) (t_assign rfl (fun _ _ => rfl)) rfl rfl (VO.t (v := .int .i64 3) (t_assign rfl (fun _ _ => rfl)) rfl rfl (VO.nil (thenQ_normal (VW.subK (.c 2 rfl (.c 3 rfl (.c 4 rfl .n))) rfl (VW.ret (blockQ_ret ?_)))))))))
      refine thenQ_ret ?_
      have h := Option.some.inj h
      subst h
      exact ⟨.inr rfl, rfl, _, .tup [.int .i64 0, .int .i64 0, .int .i64 3], hq [] [], ⟨_, _, _, rfl, rfl, rfl, rfl⟩, VLe.tup ⟨VLe.refl _, VLe.refl _, VLe.refl _, trivial⟩, hq_sub .slnil .slnil, rfl, rfl⟩
    · replace h := iteF h hc_6056
      refine VW.skip (blockQ_normal (thenQ_normal (VW.subK (.c 0 rfl .n) rfl (VW.seq (VW.draw 14 mix rfl (VA.phase (g := 0) [0, 1, 2, 3, 4, 5, 6, 7, 8, 9, 10, 11, 12, 13] 14 (VP.take (i := 0) rfl (TOp.r (t_move rfl rfl)) (.inl rfl) (by kernel_rfl) ?_)))))))
      obtain ⟨c_6057, hc_6057, h⟩ := obind h
      refine VP.take (i := 1) (v := .vptr [.int .i64 c_6057.x0, .int .i64 c_6057.x1]) rfl (TOp.r (t_indexAddr rfl sl22 rfl (fun _ _ => rfl) (getI_some hc_6057).1 (map_get (getI_some hc_6057).2 (Pr.c_eq c_6057)) rfl)) (.inl rfl) (by kernel_rfl) (VP.take (i := 2) (v := .vptr [.int .i64 c_6057.x0, .int .i64 c_6057.x1]) rfl (TOp.r (t_indexAddr_arr rfl ar49 rfl (fun _ _ => rfl) (by decide) (by decide) rfl)) (.inl rfl) (by kernel_rfl) (VP.take (i := 3) (v := .int .i64 c_6057.x0) rfl (r_load_v rfl sz3 rfl rfl) (.inl rfl) (by kernel_rfl) (VP.take (i := 4) rfl (TOp.r (t_move rfl rfl)) (.inl rfl) (by kernel_rfl) (VP.take (i := 5) rfl (TOp.r (t_move rfl rfl)) (.inl rfl) (by kernel_rfl) (VP.take (i := 6) (v := .int .i64 (a0.length : Int)) rfl (TOp.r (t_len rfl ⟨_, Try.underlying22⟩ rfl (by rw [List.length_map]))) (.inl rfl) (by kernel_rfl) (VP.take (i := 7) (v := .int .i64 (w64 ((a0.length : Int) - 1))) rfl (TOp.r (t_sub rfl rfl (fun _ _ => rfl) rfl)) (.inl rfl) (by kernel_rfl) ?_))))))
      obtain ⟨c_6058, hc_6058, h⟩ := obind h
      refine VP.take (i := 8) (v := .vptr [.int .i64 c_6058.x0, .int .i64 c_6058.x1]) rfl (TOp.r (t_indexAddr rfl sl22 rfl rfl (getI_some hc_6058).1 (map_get (getI_some hc_6058).2 (Pr.c_eq c_6058)) rfl)) (.inl rfl) (by kernel_rfl) (VP.take (i := 9) (v := .vptr [.int .i64 c_6058.x1]) rfl (TOp.r (t_indexAddr_arr rfl ar49 rfl (fun _ _ => rfl) (by decide) (by decide) rfl)) (.inl rfl) (by kernel_rfl) (VP.take (i := 10) (v := .int .i64 c_6058.x1) rfl (r_load_v rfl sz3 rfl rfl) (.inl rfl) (by kernel_rfl) (VP.take (i := 11) (v := .int .i64 c_6057.x0) rfl (TOp.r (t_assign rfl rfl)) (.inl rfl) (by kernel_rfl) (VP.take (i := 12) (v := .int .i64 c_6058.x1) rfl (TOp.r (t_assign rfl rfl)) (.inl rfl) (by kernel_rfl) (VP.take (i := 13) (v := .int .i64 0) rfl (TOp.r (t_assign rfl (fun _ _ => rfl))) (.inl rfl) (by kernel_rfl) (VP.done (by kernel_rfl) (VA.done (by kernel_rfl) (thenQ_normal (VW.subK (.c 2 rfl (.c 3 rfl (.c 4 rfl .n))) rfl ?_)))))))))
      refine VW.ret ?_
      have h := Option.some.inj h
      subst h
      exact ⟨.inr rfl, rfl, _, .tup [.int .i64 c_6057.x0, .int .i64 c_6058.x1, .int .i64 0], hq [] [], ⟨_, _, _, rfl, rfl, rfl, rfl⟩, VLe.tup ⟨VLe.refl _, VLe.refl _, VLe.refl _, trivial⟩, hq_sub .slnil .slnil, rfl, rfl⟩

theorem ref03_Hull_ok (a0 : List Pr) (r : Int × Int × Int) (h : PL.ref03_Hull a0 = some r) :
    VCalls Try.prog 17 [.sl .fz (a0.map Pr.c)] (hq [] []) (fun v H => .tup [.int .i64 r.1, .int .i64 r.2.1, .int .i64 r.2.2] = v ∧ H = hq [] []) := by
  unfold PL.ref03_Hull at h
  refine VCalls.of_body 22 [2, 3, 4] Try.func17 rfl rfl rfl (Nat.le_of_ble_eq_true rfl) (VW.subK (.c 0 rfl .n) rfl (VW.seq (VW.region (VO.t (v := .int .i64 0) (t_assign rfl (fun _ _ => rfl)) rfl rfl (VO.t (v := .int .i64 0) (t_assign rfl (fun _ _ => rfl)) rfl rfl (VO.t (v := .int .i64 0) (t_assign rfl (fun _ _ => rfl)) rfl rfl (VO.nil (thenQ_normal (VW.subK (.c 0 rfl .n) rfl ?_)))))))))
  refine VW.seq (VW.seq (VW.region (VO.t (t_move rfl rfl) rfl rfl ?_)))
  obtain ⟨rv_6059, hx_6060, h⟩ := obind h
  refine VO.w (fun v H' => .bool rv_6059 = v ∧ H' = hq [] []) (w_call_q (sa := []) (sg := []) (tks := []) rfl fn19 rfl ⟨_, _, rfl, rfl, rfl⟩ (ref03_Valid_ok _ _ hx_6060) (by rintro v H' ⟨rfl, rfl⟩; exact ⟨[], rfl, rfl, rfl⟩)) rfl rfl ?_
  rintro _ _ ⟨rfl, rfl⟩
  refine VO.t (v := .bool (!rv_6059)) (t_not rfl rfl rfl) rfl rfl (VO.nil (thenQ_normal (VW.subK (.c 0 rfl (.c 7 rfl .n)) rfl ?_)))
  refine VW.cond (b := (!rv_6059)) rfl (fun hc_6061 => ?_) (fun hc_6061 => ?_)
  · replace h := iteT h hc_6061
    refine VW.seq (VW.region (VO.t (v := .int .i64 0) (t_assign rfl (fun _ _ => rfl)) rfl rfl (VO.t (v := .int .i64 0) (t_assign rfl (fun _ _ => rfl)) rfl rfl (VO.t (v := .int .i64 1) (t_assign rfl (fun _ _ => rfl)) rfl rfl (VO.nil (thenQ_normal (VW.subK (.c 2 rfl (.c 3 rfl (.c 4 rfl .n))) rfl (VW.ret (thenQ_ret ?_)))))))))
    have h := Option.some.inj h
    subst h
    exact ⟨.inr rfl, rfl, _, .tup [.int .i64 0, .int .i64 0, .int .i64 1], hq [] [], ⟨_, _, _, rfl, rfl, rfl, rfl⟩, VLe.tup ⟨VLe.refl _, VLe.refl _, VLe.refl _, trivial⟩, hq_sub .slnil .slnil, rfl, rfl⟩
  · replace h := iteF h hc_6061
    refine VW.skip (thenQ_normal (VW.subK (.c 0 rfl .n) rfl (VW.seq (VW.seq (VW.region (VO.t (t_move rfl rfl) rfl rfl (VO.t (v := .int .i64 (a0.length : Int)) (t_len rfl ⟨_, Try.underlying22⟩ rfl (by rw [List.length_map])) rfl rfl (VO.t (v := .bool ((a0.length : Int) == 0)) (t_cmp rfl rfl rfl (fun _ _ => rfl) rfl) rfl rfl (VO.nil ?_)))))))))
    refine thenQ_normal (VW.subK (.c 0 rfl (.c 10 rfl .n)) rfl ?_)
    refine VW.cond (b := ((a0.length : Int) == 0)) rfl (fun hc_6062 => ?_) (fun hc_6062 => ?_)
    · replace h := iteT h hc_6062
      refine VW.seq (VW.region (VO.t (v := .int .i64 0) (t_assign rfl (fun _ _ => rfl)) rfl rfl (VO.t (v := .int .i64 0) (t_assign rfl (fun _ _ => rfl)) rfl rfl (VO.t (v := .int .i64 3) (t_assign rfl (fun _ _ => rfl)) rfl rfl (VO.nil (thenQ_normal (VW.subK (.c 2 rfl (.c 3 rfl (.c 4 rfl .n))) rfl (VW.ret (thenQ_ret ?_)))))))))
      have h := Option.some.inj h
      subst h
      exact ⟨.inr rfl, rfl, _, .tup [.int .i64 0, .int .i64 0, .int .i64 3], hq [] [], ⟨_, _, _, rfl, rfl, rfl, rfl⟩, VLe.tup ⟨VLe.refl _, VLe.refl _, VLe.refl _, trivial⟩, hq_sub .slnil .slnil, rfl, rfl⟩
    · replace h := iteF h hc_6062
      refine VW.skip (thenQ_normal (VW.subK (.c 0 rfl .n) rfl (VW.seq (VW.draw 14 mix rfl (VA.phase (g := 0) [0, 1, 2, 3, 4, 5, 6, 7, 8, 9, 10, 11, 12, 13] 14 (VP.take (i := 0) rfl (TOp.r (t_move rfl rfl)) (.inl rfl) (by kernel_rfl) ?_))))))
      obtain ⟨c_6063, hc_6063, h⟩ := obind h
      refine VP.take (i := 1) (v := .vptr [.int .i64 c_6063.x0, .int .i64 c_6063.x1]) rfl (TOp.r (t_indexAddr rfl sl22 rfl (fun _ _ => rfl) (getI_some hc_6063).1 (map_get (getI_some hc_6063).2 (Pr.c_eq c_6063)) rfl)) (.inl rfl) (by kernel_rfl) (VP.take (i := 2) (v := .vptr [.int .i64 c_6063.x0, .int .i64 c_6063.x1]) rfl (TOp.r (t_indexAddr_arr rfl ar49 rfl (fun _ _ => rfl) (by decide) (by decide) rfl)) (.inl rfl) (by kernel_rfl) (VP.take (i := 3) (v := .int .i64 c_6063.x0) rfl (r_load_v rfl sz3 rfl rfl) (.inl rfl) (by kernel_rfl) (VP.take (i := 4) rfl (TOp.r (t_move rfl rfl)) (.inl rfl) (by kernel_rfl) (VP.take (i := 5) rfl (TOp.r (t_move rfl rfl)) (.inl rfl) (by kernel_rfl) (VP.take (i := 6) (v := .int .i64 (a0.length : Int)) rfl (TOp.r (t_len rfl ⟨_, Try.underlying22⟩ rfl (by rw [List.length_map]))) (.inl rfl) (by kernel_rfl) (VP.take (i := 7) (v := .int .i64 (w64 ((a0.length : Int) - 1))) rfl (TOp.r (t_sub rfl rfl (fun _ _ => rfl) rfl)) (.inl rfl) (by kernel_rfl) ?_))))))
      obtain ⟨c_6064, hc_6064, h⟩ := obind h
      refine VP.take (i := 8) (v := .vptr [.int .i64 c_6064.x0, .int .i64 c_6064.x1]) rfl (TOp.r (t_indexAddr rfl sl22 rfl rfl (getI_some hc_6064).1 (map_get (getI_some hc_6064).2 (Pr.c_eq c_6064)) rfl)) (.inl rfl) (by kernel_rfl) (VP.take (i := 9) (v := .vptr [.int .i64 c_6064.x1]) rfl (TOp.r (t_indexAddr_arr rfl ar49 rfl (fun _ _ => rfl) (by decide) (by decide) rfl)) (.inl rfl) (by kernel_rfl) (VP.take (i := 10) (v := .int .i64 c_6064.x1) rfl (r_load_v rfl sz3 rfl rfl) (.inl rfl) (by kernel_rfl) (VP.take (i := 11) (v := .int .i64 c_6063.x0) rfl (TOp.r (t_assign rfl rfl)) (.inl rfl) (by kernel_rfl) (VP.take (i := 12) (v := .int .i64 c_6064.x1) rfl (TOp.r (t_assign rfl rfl)) (.inl rfl) (by kernel_rfl) (VP.take (i := 13) (v := .int .i64 0) rfl (TOp.r (t_assign rfl (fun _ _ => rfl))) (.inl rfl) (by kernel_rfl) (VP.done (by kernel_rfl) (VA.done (by kernel_rfl) (thenQ_normal (VW.subK (.c 2 rfl (.c 3 rfl (.c 4 rfl .n))) rfl ?_)))))))))
      refine VW.ret ?_
      have h := Option.some.inj h
      subst h
      exact ⟨.inr rfl, rfl, _, .tup [.int .i64 c_6063.x0, .int .i64 c_6064.x1, .int .i64 0], hq [] [], ⟨_, _, _, rfl, rfl, rfl, rfl⟩, VLe.tup ⟨VLe.refl _, VLe.refl _, VLe.refl _, trivial⟩, hq_sub .slnil .slnil, rfl, rfl⟩

theorem law03_SetMakes_ok (a0 : List Pr) (a1 : List Pr) (r : Bool) (h : PL.law03_SetMakes a0 a1 = some r) :
    VCalls Try.prog 3 [.sl .fz (a0.map Pr.c), .sl .fz (a1.map Pr.c)] (hq [] []) (fun v H => .bool r = v ∧ H = hq [] []) := by
  unfold PL.law03_SetMakes at h
  refine VCalls.of_body 158 [4] Try.func3 rfl rfl rfl (Nat.le_of_ble_eq_true rfl) (VW.subK (.c 0 rfl (.c 1 rfl .n)) rfl (VW.seq (VW.region (VO.t (v := .bool false) (t_assign rfl (fun _ _ => rfl)) rfl rfl (VO.nil (thenQ_normal (VW.subK (.c 0 rfl (.c 1 rfl .n)) rfl (VW.seq (VW.seq ?_)))))))))
  refine VW.region (VO.t (t_move rfl rfl) rfl rfl (VO.t (v := .int .i64 (a0.length : Int)) (t_len rfl ⟨_, Try.underlying22⟩ rfl (by rw [List.length_map])) rfl rfl (VO.t (v := .bool (decide ((a0.length : Int) > 300))) (t_cmp rfl rfl rfl (fun _ _ => rfl) rfl) rfl rfl (VO.t (t_move rfl rfl) rfl rfl ?_))))
  refine VO.caseB (d := 21) (b := (decide ((a0.length : Int) > 300))) rfl (fun hc_6065 => ?_) (fun hc_6065 => ?_)
  · replace h := iteT h hc_6065
    refine VO.gskip rfl rfl rfl rfl rfl (VO.gskip rfl rfl rfl rfl rfl (VO.gskip rfl rfl rfl rfl rfl (VO.t (v := .bool true) (t_pick (b := true) rfl rfl (fun _ => (fun _ _ => rfl)) (fun h => by cases h)) rfl rfl (VO.nil (thenQ_normal (VW.subK (.c 0 rfl (.c 1 rfl (.c 25 rfl .n))) rfl (VW.condT rfl (VW.seq (VW.region ?_)))))))))
    obtain ⟨rv_6066, hx_6067, h⟩ := obind h
    refine VO.w (fun v H' => .bool rv_6066 = v ∧ H' = hq [] []) (w_call_q (sa := []) (sg := []) (tks := []) rfl fn5 rfl rfl (law03_sane_ok  _ hx_6067) (by rintro v H' ⟨rfl, rfl⟩; exact ⟨[], rfl, rfl, rfl⟩)) rfl rfl ?_
    rintro _ _ ⟨rfl, rfl⟩
    refine VO.t (v := .bool rv_6066) (t_assign rfl rfl) rfl rfl (VO.nil (thenQ_normal (VW.subK (.c 4 rfl .n) rfl (VW.ret (thenQ_ret ?_)))))
    have h := Option.some.inj h
    subst h
    exact ⟨.inr rfl, rfl, _, .bool rv_6066, hq [] [], rfl, VLe.refl _, hq_sub .slnil .slnil, rfl, rfl⟩
  · replace h := iteF h hc_6065
    refine VO.gt (v := .sl .fz (a1.map Pr.c)) (t_move rfl rfl) rfl rfl rfl rfl (VO.gt (v := .int .i64 (a1.length : Int)) (t_len rfl ⟨_, Try.underlying22⟩ rfl (by rw [List.length_map])) rfl rfl rfl rfl (VO.gt (v := .bool (decide ((a1.length : Int) > 300))) (t_cmp rfl rfl rfl (fun _ _ => rfl) rfl) rfl rfl rfl rfl (VO.t (v := .bool (decide ((a1.length : Int) > 300))) (t_pick (b := false) rfl rfl (fun h => by cases h) (fun _ => rfl)) rfl rfl (VO.nil (thenQ_normal (VW.subK (.c 0 rfl (.c 1 rfl (.c 25 rfl .n))) rfl ?_))))))
    refine VW.cond (b := (decide ((a1.length : Int) > 300))) rfl (fun hc_6068 => ?_) (fun hc_6068 => ?_)
    · replace h := iteT h hc_6068
      refine VW.seq (VW.region ?_)
      obtain ⟨rv_6069, hx_6070, h⟩ := obind h
      refine VO.w (fun v H' => .bool rv_6069 = v ∧ H' = hq [] []) (w_call_q (sa := []) (sg := []) (tks := []) rfl fn5 rfl rfl (law03_sane_ok  _ hx_6070) (by rintro v H' ⟨rfl, rfl⟩; exact ⟨[], rfl, rfl, rfl⟩)) rfl rfl ?_
      rintro _ _ ⟨rfl, rfl⟩
      refine VO.t (v := .bool rv_6069) (t_assign rfl rfl) rfl rfl (VO.nil (thenQ_normal (VW.subK (.c 4 rfl .n) rfl (VW.ret (thenQ_ret ?_)))))
      have h := Option.some.inj h
      subst h
      exact ⟨.inr rfl, rfl, _, .bool rv_6069, hq [] [], rfl, VLe.refl _, hq_sub .slnil .slnil, rfl, rfl⟩
    · replace h := iteF h hc_6068
      refine VW.skip (thenQ_normal (VW.subK (.c 0 rfl (.c 1 rfl .n)) rfl (VW.seq (VW.region (VO.t (t_move rfl rfl) rfl rfl ?_)))))
      obtain ⟨rv_6071, hx_6072, h⟩ := obind h
      refine VO.w (fun v H' => .sl .fz (rv_6071.map Pr.c) = v ∧ H' = hq [] []) (w_call_q (sa := []) (sg := []) (tks := []) rfl fn6 rfl ⟨_, _, rfl, rfl, rfl⟩ (ref01_CopyPairs_ok _ _ hx_6072) (by rintro v H' ⟨rfl, rfl⟩; exact ⟨[], rfl, rfl, rfl⟩)) rfl rfl ?_
      rintro _ _ ⟨rfl, rfl⟩
      refine VO.t (v := .sl .fz (rv_6071.map Pr.c)) (t_assign rfl rfl) rfl rfl (VO.nil (thenQ_normal (VW.subK (.c 0 rfl (.c 1 rfl (.c 5 rfl .n))) rfl (VW.seq (VW.region (VO.t (t_move rfl rfl) rfl rfl ?_))))))
      obtain ⟨rv_6073, hx_6074, h⟩ := obind h
      refine VO.w (fun v H' => .sl .fz (rv_6073.map Pr.c) = v ∧ H' = hq [] []) (w_call_q (sa := []) (sg := []) (tks := []) rfl fn6 rfl ⟨_, _, rfl, rfl, rfl⟩ (ref01_CopyPairs_ok _ _ hx_6074) (by rintro v H' ⟨rfl, rfl⟩; exact ⟨[], rfl, rfl, rfl⟩)) rfl rfl ?_
      rintro _ _ ⟨rfl, rfl⟩
      refine VO.t (v := .sl .fz (rv_6073.map Pr.c)) (t_assign rfl rfl) rfl rfl (VO.nil (thenQ_normal (VW.subK (.c 0 rfl (.c 1 rfl (.c 5 rfl (.c 6 rfl .n)))) rfl (VW.seq (VW.region (VO.t (t_move rfl rfl) rfl rfl (VO.t (t_move rfl rfl) rfl rfl ?_)))))))
      obtain ⟨⟨rv_6075, rv_6076⟩, hx_6077, h⟩ := obind h
      try dsimp only at h
      refine VO.w (fun v H' => .tup [.sl .fz (rv_6075.map Pr.c), .int .i64 rv_6076] = v ∧ H' = hq [] []) (w_call_q (sa := []) (sg := []) (tks := []) rfl fn7 rfl ⟨_, _, rfl, rfl, _, _, rfl, rfl, rfl⟩ (set_Union_ok _ _ _ hx_6077) (by rintro v H' ⟨rfl, rfl⟩; exact ⟨[], rfl, rfl, rfl⟩)) rfl rfl ?_
      rintro _ _ ⟨rfl, rfl⟩
      refine VO.t (t_move rfl rfl) rfl rfl (VO.t (v := .sl .fz (rv_6075.map Pr.c)) (t_extract rfl rfl rfl) rfl rfl (VO.t (v := .int .i64 rv_6076) (t_extract rfl rfl rfl) rfl rfl (VO.t (v := .sl .fz (rv_6075.map Pr.c)) (t_assign rfl rfl) rfl rfl (VO.t (v := .int .i64 rv_6076) (t_assign rfl rfl) rfl rfl (VO.nil (thenQ_normal (VW.subK (.c 0 rfl (.c 1 rfl (.c 5 rfl (.c 6 rfl (.c 7 rfl (.c 8 rfl .n)))))) rfl (VW.seq (VW.region ?_)))))))))
      refine VO.t (t_move rfl rfl) rfl rfl (VO.t (t_move rfl rfl) rfl rfl ?_)
      obtain ⟨⟨rv_6078, rv_6079⟩, hx_6080, h⟩ := obind h
      try dsimp only at h
      refine VO.w (fun v H' => .tup [.sl .fz (rv_6078.map Pr.c), .int .i64 rv_6079] = v ∧ H' = hq [] []) (w_call_q (sa := []) (sg := []) (tks := []) rfl fn8 rfl ⟨_, _, rfl, rfl, _, _, rfl, rfl, rfl⟩ (ref03_Union_ok _ _ _ hx_6080) (by rintro v H' ⟨rfl, rfl⟩; exact ⟨[], rfl, rfl, rfl⟩)) rfl rfl ?_
      rintro _ _ ⟨rfl, rfl⟩
      refine VO.t (t_move rfl rfl) rfl rfl (VO.t (v := .sl .fz (rv_6078.map Pr.c)) (t_extract rfl rfl rfl) rfl rfl (VO.t (v := .int .i64 rv_6079) (t_extract rfl rfl rfl) rfl rfl (VO.t (v := .sl .fz (rv_6078.map Pr.c)) (t_assign rfl rfl) rfl rfl (VO.t (v := .int .i64 rv_6079) (t_assign rfl rfl) rfl rfl (VO.nil (thenQ_normal (VW.subK (.c 0 rfl (.c 1 rfl (.c 5 rfl (.c 6 rfl (.c 7 rfl (.c 8 rfl (.c 9 rfl (.c 10 rfl .n)))))))) rfl (VW.seq (VW.seq ?_)))))))))
      refine VW.region (VO.t (t_move rfl rfl) rfl rfl (VO.t (t_move rfl rfl) rfl rfl (VO.t (v := .bool (rv_6076 != rv_6079)) (t_cmp rfl rfl rfl rfl rfl) rfl rfl (VO.t (t_move rfl rfl) rfl rfl ?_))))
      refine VO.caseB (d := 46) (b := (rv_6076 != rv_6079)) rfl (fun hc_6081 => ?_) (fun hc_6081 => ?_)
      · replace h := iteT h hc_6081
        refine VO.gskip rfl rfl rfl rfl rfl (VO.gskip rfl rfl rfl rfl rfl (VO.gskip rfl rfl rfl rfl rfl (VO.gskip rfl rfl rfl rfl rfl (VO.t (v := .bool true) (t_pick (b := true) rfl rfl (fun _ => (fun _ _ => rfl)) (fun h => by cases h)) rfl rfl (VO.nil (thenQ_normal (VW.subK (.c 0 rfl (.c 1 rfl (.c 5 rfl (.c 6 rfl (.c 51 rfl .n))))) rfl (VW.condT rfl (VW.seq ?_)))))))))
        refine VW.region (VO.t (v := .bool false) (t_assign rfl (fun _ _ => rfl)) rfl rfl (VO.nil (thenQ_normal (VW.subK (.c 4 rfl .n) rfl (VW.ret (thenQ_ret ?_))))))
        have h := Option.some.inj h
        subst h
        exact ⟨.inr rfl, rfl, _, .bool false, hq [] [], rfl, VLe.refl _, hq_sub .slnil .slnil, rfl, rfl⟩
      · replace h := iteF h hc_6081
        refine VO.gt (v := .sl .fz (rv_6075.map Pr.c)) (t_move rfl rfl) rfl rfl rfl rfl (VO.gt (v := .sl .fz (rv_6078.map Pr.c)) (t_move rfl rfl) rfl rfl rfl rfl ?_)
        obtain ⟨rv_6082, hx_6083, h⟩ := obind h
        refine VO.gw (fun v H' => .bool rv_6082 = v ∧ H' = hq [] []) (w_call_q (sa := []) (sg := []) (tks := []) rfl fn9 rfl ⟨_, _, rfl, rfl, _, _, rfl, rfl, rfl⟩ (ref01_Pairs_ok _ _ _ hx_6083) (by rintro v H' ⟨rfl, rfl⟩; exact ⟨[], rfl, rfl, rfl⟩)) rfl rfl rfl rfl ?_
        rintro _ _ ⟨rfl, rfl⟩
        refine VO.gt (v := .bool (!rv_6082)) (t_not rfl rfl rfl) rfl rfl rfl rfl (VO.t (v := .bool (!rv_6082)) (t_pick (b := false) rfl rfl (fun h => by cases h) (fun _ => rfl)) rfl rfl (VO.nil (thenQ_normal (VW.subK (.c 0 rfl (.c 1 rfl (.c 5 rfl (.c 6 rfl (.c 51 rfl .n))))) rfl ?_))))
        refine VW.cond (b := (!rv_6082)) rfl (fun hc_6084 => ?_) (fun hc_6084 => ?_)
        · replace h := iteT h hc_6084
          refine VW.seq (VW.region (VO.t (v := .bool false) (t_assign rfl (fun _ _ => rfl)) rfl rfl (VO.nil (thenQ_normal (VW.subK (.c 4 rfl .n) rfl (VW.ret (thenQ_ret ?_)))))))
          have h := Option.some.inj h
          subst h
          exact ⟨.inr rfl, rfl, _, .bool false, hq [] [], rfl, VLe.refl _, hq_sub .slnil .slnil, rfl, rfl⟩
        · replace h := iteF h hc_6084
          refine VW.skip (thenQ_normal (VW.subK (.c 0 rfl (.c 1 rfl (.c 5 rfl (.c 6 rfl .n)))) rfl (VW.seq (VW.region (VO.t (t_move rfl rfl) rfl rfl (VO.t (t_move rfl rfl) rfl rfl ?_))))))
          obtain ⟨⟨rv_6085, rv_6086⟩, hx_6087, h⟩ := obind h
          try dsimp only at h
          refine VO.w (fun v H' => .tup [.sl .fz (rv_6085.map Pr.c), .int .i64 rv_6086] = v ∧ H' = hq [] []) (w_call_q (sa := []) (sg := []) (tks := []) rfl fn10 rfl ⟨_, _, rfl, rfl, _, _, rfl, rfl, rfl⟩ (set_Meet_ok _ _ _ hx_6087) (by rintro v H' ⟨rfl, rfl⟩; exact ⟨[], rfl, rfl, rfl⟩)) rfl rfl ?_
          rintro _ _ ⟨rfl, rfl⟩
          refine VO.t (t_move rfl rfl) rfl rfl (VO.t (v := .sl .fz (rv_6085.map Pr.c)) (t_extract rfl rfl rfl) rfl rfl (VO.t (v := .int .i64 rv_6086) (t_extract rfl rfl rfl) rfl rfl (VO.t (v := .sl .fz (rv_6085.map Pr.c)) (t_assign rfl rfl) rfl rfl (VO.t (v := .int .i64 rv_6086) (t_assign rfl rfl) rfl rfl (VO.nil (thenQ_normal (VW.subK (.c 0 rfl (.c 1 rfl (.c 5 rfl (.c 6 rfl (.c 7 rfl (.c 8 rfl .n)))))) rfl (VW.seq (VW.region ?_)))))))))
          refine VO.t (t_move rfl rfl) rfl rfl (VO.t (t_move rfl rfl) rfl rfl ?_)
          obtain ⟨⟨rv_6088, rv_6089⟩, hx_6090, h⟩ := obind h
          try dsimp only at h
          refine VO.w (fun v H' => .tup [.sl .fz (rv_6088.map Pr.c), .int .i64 rv_6089] = v ∧ H' = hq [] []) (w_call_q (sa := []) (sg := []) (tks := []) rfl fn11 rfl ⟨_, _, rfl, rfl, _, _, rfl, rfl, rfl⟩ (ref03_Meet_ok _ _ _ hx_6090) (by rintro v H' ⟨rfl, rfl⟩; exact ⟨[], rfl, rfl, rfl⟩)) rfl rfl ?_
          rintro _ _ ⟨rfl, rfl⟩
          refine VO.t (t_move rfl rfl) rfl rfl (VO.t (v := .sl .fz (rv_6088.map Pr.c)) (t_extract rfl rfl rfl) rfl rfl (VO.t (v := .int .i64 rv_6089) (t_extract rfl rfl rfl) rfl rfl (VO.t (v := .sl .fz (rv_6088.map Pr.c)) (t_assign rfl rfl) rfl rfl (VO.t (v := .int .i64 rv_6089) (t_assign rfl rfl) rfl rfl (VO.nil (thenQ_normal (VW.subK (.c 0 rfl (.c 1 rfl (.c 5 rfl (.c 6 rfl (.c 7 rfl (.c 8 rfl (.c 9 rfl (.c 10 rfl .n)))))))) rfl (VW.seq (VW.seq ?_)))))))))
          refine VW.region (VO.t (t_move rfl rfl) rfl rfl (VO.t (t_move rfl rfl) rfl rfl (VO.t (v := .bool (rv_6086 != rv_6089)) (t_cmp rfl rfl rfl rfl rfl) rfl rfl (VO.t (t_move rfl rfl) rfl rfl ?_))))
          refine VO.caseB (d := 67) (b := (rv_6086 != rv_6089)) rfl (fun hc_6091 => ?_) (fun hc_6091 => ?_)
          · replace h := iteT h hc_6091
            refine VO.gskip rfl rfl rfl rfl rfl (VO.gskip rfl rfl rfl rfl rfl (VO.gskip rfl rfl rfl rfl rfl (VO.gskip rfl rfl rfl rfl rfl (VO.t (v := .bool true) (t_pick (b := true) rfl rfl (fun _ => (fun _ _ => rfl)) (fun h => by cases h)) rfl rfl (VO.nil (thenQ_normal (VW.subK (.c 0 rfl (.c 1 rfl (.c 5 rfl (.c 6 rfl (.c 72 rfl .n))))) rfl (VW.condT rfl (VW.seq ?_)))))))))
            refine VW.region (VO.t (v := .bool false) (t_assign rfl (fun _ _ => rfl)) rfl rfl (VO.nil (thenQ_normal (VW.subK (.c 4 rfl .n) rfl (VW.ret (thenQ_ret ?_))))))
            have h := Option.some.inj h
            subst h
            exact ⟨.inr rfl, rfl, _, .bool false, hq [] [], rfl, VLe.refl _, hq_sub .slnil .slnil, rfl, rfl⟩
          · replace h := iteF h hc_6091
            refine VO.gt (v := .sl .fz (rv_6085.map Pr.c)) (t_move rfl rfl) rfl rfl rfl rfl (VO.gt (v := .sl .fz (rv_6088.map Pr.c)) (t_move rfl rfl) rfl rfl rfl rfl ?_)
            obtain ⟨rv_6092, hx_6093, h⟩ := obind h
            refine VO.gw (fun v H' => .bool rv_6092 = v ∧ H' = hq [] []) (w_call_q (sa := []) (sg := []) (tks := []) rfl fn9 rfl ⟨_, _, rfl, rfl, _, _, rfl, rfl, rfl⟩ (ref01_Pairs_ok _ _ _ hx_6093) (by rintro v H' ⟨rfl, rfl⟩; exact ⟨[], rfl, rfl, rfl⟩)) rfl rfl rfl rfl ?_
            rintro _ _ ⟨rfl, rfl⟩
            refine VO.gt (v := .bool (!rv_6092)) (t_not rfl rfl rfl) rfl rfl rfl rfl (VO.t (v := .bool (!rv_6092)) (t_pick (b := false) rfl rfl (fun h => by cases h) (fun _ => rfl)) rfl rfl (VO.nil (thenQ_normal (VW.subK (.c 0 rfl (.c 1 rfl (.c 5 rfl (.c 6 rfl (.c 72 rfl .n))))) rfl ?_))))
            refine VW.cond (b := (!rv_6092)) rfl (fun hc_6094 => ?_) (fun hc_6094 => ?_)
            · replace h := iteT h hc_6094
              refine VW.seq (VW.region (VO.t (v := .bool false) (t_assign rfl (fun _ _ => rfl)) rfl rfl (VO.nil (thenQ_normal (VW.subK (.c 4 rfl .n) rfl (VW.ret (thenQ_ret ?_)))))))
              have h := Option.some.inj h
              subst h
              exact ⟨.inr rfl, rfl, _, .bool false, hq [] [], rfl, VLe.refl _, hq_sub .slnil .slnil, rfl, rfl⟩
            · replace h := iteF h hc_6094
              refine VW.skip (thenQ_normal (VW.subK (.c 0 rfl (.c 1 rfl (.c 5 rfl (.c 6 rfl .n)))) rfl (VW.seq (VW.region (VO.t (t_move rfl rfl) rfl rfl (VO.t (t_move rfl rfl) rfl rfl ?_))))))
              obtain ⟨⟨rv_6095, rv_6096⟩, hx_6097, h⟩ := obind h
              try dsimp only at h
              refine VO.w (fun v H' => .tup [.sl .fz (rv_6095.map Pr.c), .int .i64 rv_6096] = v ∧ H' = hq [] []) (w_call_q (sa := []) (sg := []) (tks := []) rfl fn12 rfl ⟨_, _, rfl, rfl, _, _, rfl, rfl, rfl⟩ (set_Except_ok _ _ _ hx_6097) (by rintro v H' ⟨rfl, rfl⟩; exact ⟨[], rfl, rfl, rfl⟩)) rfl rfl ?_
              rintro _ _ ⟨rfl, rfl⟩
              refine VO.t (t_move rfl rfl) rfl rfl (VO.t (v := .sl .fz (rv_6095.map Pr.c)) (t_extract rfl rfl rfl) rfl rfl (VO.t (v := .int .i64 rv_6096) (t_extract rfl rfl rfl) rfl rfl (VO.t (v := .sl .fz (rv_6095.map Pr.c)) (t_assign rfl rfl) rfl rfl (VO.t (v := .int .i64 rv_6096) (t_assign rfl rfl) rfl rfl (VO.nil (thenQ_normal (VW.subK (.c 0 rfl (.c 1 rfl (.c 5 rfl (.c 6 rfl (.c 7 rfl (.c 8 rfl .n)))))) rfl (VW.seq (VW.region ?_)))))))))
              refine VO.t (t_move rfl rfl) rfl rfl (VO.t (t_move rfl rfl) rfl rfl ?_)
              obtain ⟨⟨rv_6098, rv_6099⟩, hx_6100, h⟩ := obind h
              try dsimp only at h
              refine VO.w (fun v H' => .tup [.sl .fz (rv_6098.map Pr.c), .int .i64 rv_6099] = v ∧ H' = hq [] []) (w_call_q (sa := []) (sg := []) (tks := []) rfl fn13 rfl ⟨_, _, rfl, rfl, _, _, rfl, rfl, rfl⟩ (ref03_Except_ok _ _ _ hx_6100) (by rintro v H' ⟨rfl, rfl⟩; exact ⟨[], rfl, rfl, rfl⟩)) rfl rfl ?_
              rintro _ _ ⟨rfl, rfl⟩
              refine VO.t (t_move rfl rfl) rfl rfl (VO.t (v := .sl .fz (rv_6098.map Pr.c)) (t_extract rfl rfl rfl) rfl rfl (VO.t (v := .int .i64 rv_6099) (t_extract rfl rfl rfl) rfl rfl (VO.t (v := .sl .fz (rv_6098.map Pr.c)) (t_assign rfl rfl) rfl rfl (VO.t (v := .int .i64 rv_6099) (t_assign rfl rfl) rfl rfl (VO.nil (thenQ_normal (VW.subK (.c 0 rfl (.c 1 rfl (.c 5 rfl (.c 6 rfl (.c 7 rfl (.c 8 rfl (.c 9 rfl (.c 10 rfl .n)))))))) rfl (VW.seq (VW.seq ?_)))))))))
              refine VW.region (VO.t (t_move rfl rfl) rfl rfl (VO.t (t_move rfl rfl) rfl rfl (VO.t (v := .bool (rv_6096 != rv_6099)) (t_cmp rfl rfl rfl rfl rfl) rfl rfl (VO.t (t_move rfl rfl) rfl rfl ?_))))
              refine VO.caseB (d := 88) (b := (rv_6096 != rv_6099)) rfl (fun hc_6101 => ?_) (fun hc_6101 => ?_)
              · replace h := iteT h hc_6101
                refine VO.gskip rfl rfl rfl rfl rfl (VO.gskip rfl rfl rfl rfl rfl (VO.gskip rfl rfl rfl rfl rfl (VO.gskip rfl rfl rfl rfl rfl (VO.t (v := .bool true) (t_pick (b := true) rfl rfl (fun _ => (fun _ _ => rfl)) (fun h => by cases h)) rfl rfl (VO.nil (thenQ_normal (VW.subK (.c 0 rfl (.c 1 rfl (.c 5 rfl (.c 6 rfl (.c 93 rfl .n))))) rfl (VW.condT rfl (VW.seq ?_)))))))))
                refine VW.region (VO.t (v := .bool false) (t_assign rfl (fun _ _ => rfl)) rfl rfl (VO.nil (thenQ_normal (VW.subK (.c 4 rfl .n) rfl (VW.ret (thenQ_ret ?_))))))
                have h := Option.some.inj h
                subst h
                exact ⟨.inr rfl, rfl, _, .bool false, hq [] [], rfl, VLe.refl _, hq_sub .slnil .slnil, rfl, rfl⟩
              · replace h := iteF h hc_6101
                refine VO.gt (v := .sl .fz (rv_6095.map Pr.c)) (t_move rfl rfl) rfl rfl rfl rfl (VO.gt (v := .sl .fz (rv_6098.map Pr.c)) (t_move rfl rfl) rfl rfl rfl rfl ?_)
                obtain ⟨rv_6102, hx_6103, h⟩ := obind h
                refine VO.gw (fun v H' => .bool rv_6102 = v ∧ H' = hq [] []) (w_call_q (sa := []) (sg := []) (tks := []) rfl fn9 rfl ⟨_, _, rfl, rfl, _, _, rfl, rfl, rfl⟩ (ref01_Pairs_ok _ _ _ hx_6103) (by rintro v H' ⟨rfl, rfl⟩; exact ⟨[], rfl, rfl, rfl⟩)) rfl rfl rfl rfl ?_
                rintro _ _ ⟨rfl, rfl⟩
                refine VO.gt (v := .bool (!rv_6102)) (t_not rfl rfl rfl) rfl rfl rfl rfl (VO.t (v := .bool (!rv_6102)) (t_pick (b := false) rfl rfl (fun h => by cases h) (fun _ => rfl)) rfl rfl (VO.nil (thenQ_normal (VW.subK (.c 0 rfl (.c 1 rfl (.c 5 rfl (.c 6 rfl (.c 93 rfl .n))))) rfl ?_))))
                refine VW.cond (b := (!rv_6102)) rfl (fun hc_6104 => ?_) (fun hc_6104 => ?_)
                · replace h := iteT h hc_6104
                  refine VW.seq (VW.region (VO.t (v := .bool false) (t_assign rfl (fun _ _ => rfl)) rfl rfl (VO.nil (thenQ_normal (VW.subK (.c 4 rfl .n) rfl (VW.ret (thenQ_ret ?_)))))))
                  have h := Option.some.inj h
                  subst h
                  exact ⟨.inr rfl, rfl, _, .bool false, hq [] [], rfl, VLe.refl _, hq_sub .slnil .slnil, rfl, rfl⟩
                · replace h := iteF h hc_6104
                  refine VW.skip (thenQ_normal (VW.subK (.c 0 rfl (.c 1 rfl (.c 5 rfl (.c 6 rfl .n)))) rfl (VW.seq (VW.region (VO.t (t_move rfl rfl) rfl rfl ?_)))))
                  obtain ⟨⟨rv_6105, rv_6106⟩, hx_6107, h⟩ := obind h
                  try dsimp only at h
                  refine VO.w (fun v H' => .tup [.int .i64 rv_6105, .int .i64 rv_6106] = v ∧ H' = hq [] []) (w_call_q (sa := []) (sg := []) (tks := []) rfl fn14 rfl ⟨_, _, rfl, rfl, rfl⟩ (set_Size_ok _ _ hx_6107) (by rintro v H' ⟨rfl, rfl⟩; exact ⟨[], rfl, rfl, rfl⟩)) rfl rfl ?_
                  rintro _ _ ⟨rfl, rfl⟩
                  refine VO.t (t_move rfl rfl) rfl rfl (VO.t (v := .int .i64 rv_6105) (t_extract rfl rfl rfl) rfl rfl (VO.t (v := .int .i64 rv_6106) (t_extract rfl rfl rfl) rfl rfl (VO.t (v := .int .i64 rv_6105) (t_assign rfl rfl) rfl rfl (VO.t (v := .int .i64 rv_6106) (t_assign rfl rfl) rfl rfl (VO.nil (thenQ_normal (VW.subK (.c 0 rfl (.c 1 rfl (.c 5 rfl (.c 6 rfl (.c 11 rfl (.c 8 rfl .n)))))) rfl (VW.seq (VW.region ?_)))))))))
                  refine VO.t (t_move rfl rfl) rfl rfl ?_
                  obtain ⟨⟨rv_6108, rv_6109⟩, hx_6110, h⟩ := obind h
                  try dsimp only at h
                  refine VO.w (fun v H' => .tup [.int .i64 rv_6108, .int .i64 rv_6109] = v ∧ H' = hq [] []) (w_call_q (sa := []) (sg := []) (tks := []) rfl fn15 rfl ⟨_, _, rfl, rfl, rfl⟩ (ref03_Size_ok _ _ hx_6110) (by rintro v H' ⟨rfl, rfl⟩; exact ⟨[], rfl, rfl, rfl⟩)) rfl rfl ?_
                  rintro _ _ ⟨rfl, rfl⟩
                  refine VO.t (t_move rfl rfl) rfl rfl (VO.t (v := .int .i64 rv_6108) (t_extract rfl rfl rfl) rfl rfl (VO.t (v := .int .i64 rv_6109) (t_extract rfl rfl rfl) rfl rfl (VO.t (v := .int .i64 rv_6108) (t_assign rfl rfl) rfl rfl (VO.t (v := .int .i64 rv_6109) (t_assign rfl rfl) rfl rfl (VO.nil (thenQ_normal (VW.subK (.c 0 rfl (.c 1 rfl (.c 5 rfl (.c 6 rfl (.c 11 rfl (.c 8 rfl (.c 12 rfl (.c 10 rfl .n)))))))) rfl (VW.seq (VW.seq ?_)))))))))
                  refine VW.region (VO.t (t_move rfl rfl) rfl rfl (VO.t (t_move rfl rfl) rfl rfl (VO.t (v := .bool (rv_6105 != rv_6108)) (t_cmp rfl rfl rfl rfl rfl) rfl rfl (VO.t (t_move rfl rfl) rfl rfl ?_))))
                  refine VO.caseB (d := 107) (b := (rv_6105 != rv_6108)) rfl (fun hc_6111 => ?_) (fun hc_6111 => ?_)
                  · replace h := iteT h hc_6111
                    refine VO.gskip rfl rfl rfl rfl rfl (VO.gskip rfl rfl rfl rfl rfl (VO.gskip rfl rfl rfl rfl rfl (VO.t (v := .bool true) (t_pick (b := true) rfl rfl (fun _ => (fun _ _ => rfl)) (fun h => by cases h)) rfl rfl (VO.nil (thenQ_normal (VW.subK (.c 0 rfl (.c 1 rfl (.c 5 rfl (.c 6 rfl (.c 111 rfl .n))))) rfl (VW.condT rfl (VW.seq (VW.region ?_)))))))))
                    refine VO.t (v := .bool false) (t_assign rfl (fun _ _ => rfl)) rfl rfl (VO.nil (thenQ_normal (VW.subK (.c 4 rfl .n) rfl (VW.ret (thenQ_ret ?_)))))
                    have h := Option.some.inj h
                    subst h
                    exact ⟨.inr rfl, rfl, _, .bool false, hq [] [], rfl, VLe.refl _, hq_sub .slnil .slnil, rfl, rfl⟩
                  · replace h := iteF h hc_6111
                    refine VO.gt (v := .int .i64 rv_6106) (t_move rfl rfl) rfl rfl rfl rfl (VO.gt (v := .int .i64 rv_6109) (t_move rfl rfl) rfl rfl rfl rfl (VO.gt (v := .bool (rv_6106 != rv_6109)) (t_cmp rfl rfl rfl rfl rfl) rfl rfl rfl rfl (VO.t (v := .bool (rv_6106 != rv_6109)) (t_pick (b := false) rfl rfl (fun h => by cases h) (fun _ => rfl)) rfl rfl (VO.nil (thenQ_normal (VW.subK (.c 0 rfl (.c 1 rfl (.c 5 rfl (.c 6 rfl (.c 111 rfl .n))))) rfl ?_))))))
                    refine VW.cond (b := (rv_6106 != rv_6109)) rfl (fun hc_6112 => ?_) (fun hc_6112 => ?_)
                    · replace h := iteT h hc_6112
                      refine VW.seq (VW.region (VO.t (v := .bool false) (t_assign rfl (fun _ _ => rfl)) rfl rfl (VO.nil (thenQ_normal (VW.subK (.c 4 rfl .n) rfl (VW.ret (thenQ_ret ?_)))))))
                      have h := Option.some.inj h
                      subst h
                      exact ⟨.inr rfl, rfl, _, .bool false, hq [] [], rfl, VLe.refl _, hq_sub .slnil .slnil, rfl, rfl⟩
                    · replace h := iteF h hc_6112
                      refine VW.skip (thenQ_normal (VW.subK (.c 0 rfl (.c 1 rfl (.c 5 rfl (.c 6 rfl .n)))) rfl (VW.seq (VW.region (VO.t (t_move rfl rfl) rfl rfl ?_)))))
                      obtain ⟨⟨rv_6113, rv_6114, rv_6115⟩, hx_6116, h⟩ := obind h
                      try dsimp only at h
                      refine VO.w (fun v H' => .tup [.int .i64 rv_6113, .int .i64 rv_6114, .int .i64 rv_6115] = v ∧ H' = hq [] []) (w_call_q (sa := []) (sg := []) (tks := []) rfl fn16 rfl ⟨_, _, rfl, rfl, rfl⟩ (set_Hull_ok _ _ hx_6116) (by rintro v H' ⟨rfl, rfl⟩; exact ⟨[], rfl, rfl, rfl⟩)) rfl rfl ?_
                      rintro _ _ ⟨rfl, rfl⟩
                      refine VO.t (t_move rfl rfl) rfl rfl (VO.t (v := .int .i64 rv_6113) (t_extract rfl rfl rfl) rfl rfl (VO.t (v := .int .i64 rv_6114) (t_extract rfl rfl rfl) rfl rfl (VO.t (v := .int .i64 rv_6115) (t_extract rfl rfl rfl) rfl rfl (VO.t (v := .int .i64 rv_6113) (t_assign rfl rfl) rfl rfl (VO.t (v := .int .i64 rv_6114) (t_assign rfl rfl) rfl rfl (VO.t (v := .int .i64 rv_6115) (t_assign rfl rfl) rfl rfl (VO.nil (thenQ_normal (VW.subK (.c 0 rfl (.c 1 rfl (.c 5 rfl (.c 6 rfl (.c 13 rfl (.c 14 rfl (.c 8 rfl .n))))))) rfl ?_)))))))))
                      refine VW.seq (VW.region (VO.t (t_move rfl rfl) rfl rfl ?_))
                      obtain ⟨⟨rv_6117, rv_6118, rv_6119⟩, hx_6120, h⟩ := obind h
                      try dsimp only at h
                      refine VO.w (fun v H' => .tup [.int .i64 rv_6117, .int .i64 rv_6118, .int .i64 rv_6119] = v ∧ H' = hq [] []) (w_call_q (sa := []) (sg := []) (tks := []) rfl fn17 rfl ⟨_, _, rfl, rfl, rfl⟩ (ref03_Hull_ok _ _ hx_6120) (by rintro v H' ⟨rfl, rfl⟩; exact ⟨[], rfl, rfl, rfl⟩)) rfl rfl ?_
                      rintro _ _ ⟨rfl, rfl⟩
                      refine VO.t (t_move rfl rfl) rfl rfl (VO.t (v := .int .i64 rv_6117) (t_extract rfl rfl rfl) rfl rfl (VO.t (v := .int .i64 rv_6118) (t_extract rfl rfl rfl) rfl rfl (VO.t (v := .int .i64 rv_6119) (t_extract rfl rfl rfl) rfl rfl (VO.t (v := .int .i64 rv_6117) (t_assign rfl rfl) rfl rfl (VO.t (v := .int .i64 rv_6118) (t_assign rfl rfl) rfl rfl (VO.t (v := .int .i64 rv_6119) (t_assign rfl rfl) rfl rfl (VO.nil (thenQ_normal (VW.subK (.c 0 rfl (.c 1 rfl (.c 5 rfl (.c 6 rfl (.c 13 rfl (.c 14 rfl (.c 8 rfl (.c 15 rfl (.c 16 rfl (.c 10 rfl .n)))))))))) rfl ?_)))))))))
                      refine VW.seq (VW.region (VO.t (t_move rfl rfl) rfl rfl ?_))
                      obtain ⟨rv_6121, hx_6122, h⟩ := obind h
                      refine VO.w (fun v H' => .bool rv_6121 = v ∧ H' = hq [] []) (w_call_q (sa := []) (sg := []) (tks := []) rfl fn18 rfl ⟨_, _, rfl, rfl, rfl⟩ (set_Valid_ok _ _ hx_6122) (by rintro v H' ⟨rfl, rfl⟩; exact ⟨[], rfl, rfl, rfl⟩)) rfl rfl ?_
                      rintro _ _ ⟨rfl, rfl⟩
                      refine VO.t (v := .bool rv_6121) (t_assign rfl rfl) rfl rfl (VO.nil (thenQ_normal (VW.subK (.c 0 rfl (.c 1 rfl (.c 5 rfl (.c 6 rfl (.c 13 rfl (.c 14 rfl (.c 8 rfl (.c 15 rfl (.c 16 rfl (.c 10 rfl (.c 17 rfl .n))))))))))) rfl (VW.seq (VW.region (VO.t (t_move rfl rfl) rfl rfl (VO.t (t_move rfl rfl) rfl rfl (VO.t (v := .bool (rv_6113 == rv_6117)) (t_cmp rfl rfl rfl rfl rfl) rfl rfl (VO.t (t_move rfl rfl) rfl rfl ?_)))))))))
                      refine VO.caseB (d := 129) (b := (rv_6113 == rv_6117)) rfl (fun hc_6123 => ?_) (fun hc_6123 => ?_)
                      · replace h := iteT h hc_6123
                        refine VO.gt (v := .int .i64 rv_6114) (t_move rfl rfl) rfl rfl rfl rfl (VO.gt (v := .int .i64 rv_6118) (t_move rfl rfl) rfl rfl rfl rfl (VO.gt (v := .bool (rv_6114 == rv_6118)) (t_cmp rfl rfl rfl rfl rfl) rfl rfl rfl rfl (VO.t (v := .bool (rv_6114 == rv_6118)) (t_pick (b := true) rfl rfl (fun _ => rfl) (fun h => by cases h)) rfl rfl (VO.t (t_move rfl rfl) rfl rfl ?_))))
                        refine VO.caseB (d := 134) (b := (rv_6114 == rv_6118)) rfl (fun hc_6124 => ?_) (fun hc_6124 => ?_)
                        · replace h := iteT h hc_6124
                          refine VO.gt (v := .int .i64 rv_6115) (t_move rfl rfl) rfl rfl rfl rfl (VO.gt (v := .int .i64 rv_6119) (t_move rfl rfl) rfl rfl rfl rfl (VO.gt (v := .bool (rv_6115 == rv_6119)) (t_cmp rfl rfl rfl rfl rfl) rfl rfl rfl rfl (VO.t (v := .bool (rv_6115 == rv_6119)) (t_pick (b := true) rfl rfl (fun _ => rfl) (fun h => by cases h)) rfl rfl (VO.t (t_move rfl rfl) rfl rfl ?_))))
                          refine VO.caseB (d := 139) (b := (rv_6115 == rv_6119)) rfl (fun hc_6125 => ?_) (fun hc_6125 => ?_)
                          · replace h := iteT h hc_6125
                            refine VO.gt (v := .bool rv_6121) (t_move rfl rfl) rfl rfl rfl rfl (VO.gt (v := .sl .fz (rv_6071.map Pr.c)) (t_move rfl rfl) rfl rfl rfl rfl ?_)
                            obtain ⟨rv_6126, hx_6127, h⟩ := obind h
                            refine VO.gw (fun v H' => .bool rv_6126 = v ∧ H' = hq [] []) (w_call_q (sa := []) (sg := []) (tks := []) rfl fn19 rfl ⟨_, _, rfl, rfl, rfl⟩ (ref03_Valid_ok _ _ hx_6127) (by rintro v H' ⟨rfl, rfl⟩; exact ⟨[], rfl, rfl, rfl⟩)) rfl rfl rfl rfl ?_
                            rintro _ _ ⟨rfl, rfl⟩
                            refine VO.gt (v := .bool (rv_6121 == rv_6126)) (t_beq rfl Try.underlying4 rfl rfl rfl) rfl rfl rfl rfl (VO.t (v := .bool (rv_6121 == rv_6126)) (t_pick (b := true) rfl rfl (fun _ => rfl) (fun h => by cases h)) rfl rfl (VO.t (t_move rfl rfl) rfl rfl ?_))
                            refine VO.caseB (d := 145) (b := (rv_6121 == rv_6126)) rfl (fun hc_6128 => ?_) (fun hc_6128 => ?_)
                            · replace h := iteT h hc_6128
                              refine VO.gt (v := .sl .fz (a0.map Pr.c)) (t_move rfl rfl) rfl rfl rfl rfl (VO.gt (v := .sl .fz (rv_6071.map Pr.c)) (t_move rfl rfl) rfl rfl rfl rfl ?_)
                              obtain ⟨rv_6129, hx_6130, h⟩ := obind h
                              refine VO.gw (fun v H' => .bool rv_6129 = v ∧ H' = hq [] []) (w_call_q (sa := []) (sg := []) (tks := []) rfl fn9 rfl ⟨_, _, rfl, rfl, _, _, rfl, rfl, rfl⟩ (ref01_Pairs_ok _ _ _ hx_6130) (by rintro v H' ⟨rfl, rfl⟩; exact ⟨[], rfl, rfl, rfl⟩)) rfl rfl rfl rfl ?_
                              rintro _ _ ⟨rfl, rfl⟩
                              refine VO.t (v := .bool rv_6129) (t_pick (b := true) rfl rfl (fun _ => rfl) (fun h => by cases h)) rfl rfl (VO.t (t_move rfl rfl) rfl rfl ?_)
                              refine VO.caseB (d := 150) (b := rv_6129) rfl (fun hc_6131 => ?_) (fun hc_6131 => ?_)
                              · replace h := iteT h hc_6131
                                refine VO.gt (v := .sl .fz (a1.map Pr.c)) (t_move rfl rfl) rfl rfl rfl rfl (VO.gt (v := .sl .fz (rv_6073.map Pr.c)) (t_move rfl rfl) rfl rfl rfl rfl ?_)
                                obtain ⟨rv_6132, hx_6133, h⟩ := obind h
                                refine VO.gw (fun v H' => .bool rv_6132 = v ∧ H' = hq [] []) (w_call_q (sa := []) (sg := []) (tks := []) rfl fn9 rfl ⟨_, _, rfl, rfl, _, _, rfl, rfl, rfl⟩ (ref01_Pairs_ok _ _ _ hx_6133) (by rintro v H' ⟨rfl, rfl⟩; exact ⟨[], rfl, rfl, rfl⟩)) rfl rfl rfl rfl ?_
                                rintro _ _ ⟨rfl, rfl⟩
                                refine VO.t (v := .bool rv_6132) (t_pick (b := true) rfl rfl (fun _ => rfl) (fun h => by cases h)) rfl rfl (VO.t (t_move rfl rfl) rfl rfl ?_)
                                refine VO.caseB (d := 155) (b := rv_6132) rfl (fun hc_6134 => ?_) (fun hc_6134 => ?_)
                                · replace h := iteT h hc_6134
                                  obtain ⟨rv_6135, hx_6136, h⟩ := obind h
                                  refine VO.gw (fun v H' => .bool rv_6135 = v ∧ H' = hq [] []) (w_call_q (sa := []) (sg := []) (tks := []) rfl fn5 rfl rfl (law03_sane_ok  _ hx_6136) (by rintro v H' ⟨rfl, rfl⟩; exact ⟨[], rfl, rfl, rfl⟩)) rfl rfl rfl rfl ?_
                                  rintro _ _ ⟨rfl, rfl⟩
                                  refine VO.t (v := .bool rv_6135) (t_pick (b := true) rfl rfl (fun _ => rfl) (fun h => by cases h)) rfl rfl (VO.t (v := .bool rv_6135) (t_assign rfl rfl) rfl rfl (VO.nil (thenQ_normal (VW.subK (.c 4 rfl .n) rfl (VW.ret ?_)))))
                                  have h := Option.some.inj h
                                  subst h
                                  exact ⟨.inr rfl, rfl, _, .bool rv_6135, hq [] [], rfl, VLe.refl _, hq_sub .slnil .slnil, rfl, rfl⟩
                                · replace h := iteF h hc_6134
                                  refine VO.gskip rfl rfl rfl rfl rfl (VO.t (v := .bool false) (t_pick (b := false) rfl rfl (fun h => by cases h) (fun _ => (fun _ _ => rfl))) rfl rfl (VO.t (v := .bool false) (t_assign rfl rfl) rfl rfl (VO.nil (thenQ_normal (VW.subK (.c 4 rfl .n) rfl (VW.ret ?_))))))
                                  have h := Option.some.inj h
                                  subst h
                                  exact ⟨.inr rfl, rfl, _, .bool false, hq [] [], rfl, VLe.refl _, hq_sub .slnil .slnil, rfl, rfl⟩
                              · replace h := iteF h hc_6131
                                refine VO.gskip rfl rfl rfl rfl rfl (VO.gskip rfl rfl rfl rfl rfl (VO.gskip rfl rfl rfl rfl rfl (VO.t (v := .bool false) (t_pick (b := false) rfl rfl (fun h => by cases h) (fun _ => (fun _ _ => rfl))) rfl rfl (VO.t (t_move rfl rfl) rfl rfl (VO.gskip rfl rfl rfl rfl rfl (VO.t (v := .bool false) (t_pick (b := false) rfl rfl (fun h => by cases h) (fun _ => (fun _ _ => rfl))) rfl rfl (VO.t (v := .bool false) (t_assign rfl rfl) rfl rfl (VO.nil (thenQ_normal ?_)))))))))
                                refine VW.subK (.c 4 rfl .n) rfl (VW.ret ?_)
                                have h := Option.some.inj h
                                subst h
                                exact ⟨.inr rfl, rfl, _, .bool false, hq [] [], rfl, VLe.refl _, hq_sub .slnil .slnil, rfl, rfl⟩
                            · replace h := iteF h hc_6128
                              refine VO.gskip rfl rfl rfl rfl rfl (VO.gskip rfl rfl rfl rfl rfl (VO.gskip rfl rfl rfl rfl rfl (VO.t (v := .bool false) (t_pick (b := false) rfl rfl (fun h => by cases h) (fun _ => (fun _ _ => rfl))) rfl rfl (VO.t (t_move rfl rfl) rfl rfl (VO.gskip rfl rfl rfl rfl rfl (VO.gskip rfl rfl rfl rfl rfl (VO.gskip rfl rfl rfl rfl rfl (VO.t (v := .bool false) (t_pick (b := false) rfl rfl (fun h => by cases h) (fun _ => (fun _ _ => rfl))) rfl rfl (VO.t (t_move rfl rfl) rfl rfl ?_)))))))))
                              refine VO.gskip rfl rfl rfl rfl rfl (VO.t (v := .bool false) (t_pick (b := false) rfl rfl (fun h => by cases h) (fun _ => (fun _ _ => rfl))) rfl rfl (VO.t (v := .bool false) (t_assign rfl rfl) rfl rfl (VO.nil (thenQ_normal (VW.subK (.c 4 rfl .n) rfl (VW.ret ?_))))))
                              have h := Option.some.inj h
                              subst h
                              exact ⟨.inr rfl, rfl, _, .bool false, hq [] [], rfl, VLe.refl _, hq_sub .slnil .slnil, rfl, rfl⟩
                          · replace h := iteF h hc_6125
                            refine VO.gskip rfl rfl rfl rfl rfl (VO.gskip rfl rfl rfl rfl rfl (VO.gskip rfl rfl rfl rfl rfl (VO.gskip rfl rfl rfl rfl rfl (VO.t (v := .bool false) (t_pick (b := false) rfl rfl (fun h => by cases h) (fun _ => (fun _ _ => rfl))) rfl rfl (VO.t (t_move rfl rfl) rfl rfl (VO.gskip rfl rfl rfl rfl rfl (VO.gskip rfl rfl rfl rfl rfl (VO.gskip rfl rfl rfl rfl rfl (VO.t (v := .bool false) (t_pick (b := false) rfl rfl (fun h => by cases h) (fun _ => (fun _ _ => rfl))) rfl rfl ?_)))))))))
                            refine VO.t (t_move rfl rfl) rfl rfl (VO.gskip rfl rfl rfl rfl rfl (VO.gskip rfl rfl rfl rfl rfl (VO.gskip rfl rfl rfl rfl rfl (VO.t (v := .bool false) (t_pick (b := false) rfl rfl (fun h => by cases h) (fun _ => (fun _ _ => rfl))) rfl rfl (VO.t (t_move rfl rfl) rfl rfl (VO.gskip rfl rfl rfl rfl rfl (VO.t (v := .bool false) (t_pick (b := false) rfl rfl (fun h => by cases h) (fun _ => (fun _ _ => rfl))) rfl rfl (VO.t (v := .bool false) (t_assign rfl rfl) rfl rfl (VO.nil ?_)))))))))
                            refine thenQ_normal (VW.subK (.c 4 rfl .n) rfl (VW.ret ?_))
                            have h := Option.some.inj h
                            subst h
                            exact ⟨.inr rfl, rfl, _, .bool false, hq [] [], rfl, VLe.refl _, hq_sub .slnil .slnil, rfl, rfl⟩
                        · replace h := iteF h hc_6124
                          refine VO.gskip rfl rfl rfl rfl rfl (VO.gskip rfl rfl rfl rfl rfl (VO.gskip rfl rfl rfl rfl rfl (VO.t (v := .bool false) (t_pick (b := false) rfl rfl (fun h => by cases h) (fun _ => (fun _ _ => rfl))) rfl rfl (VO.t (t_move rfl rfl) rfl rfl (VO.gskip rfl rfl rfl rfl rfl (VO.gskip rfl rfl rfl rfl rfl (VO.gskip rfl rfl rfl rfl rfl (VO.gskip rfl rfl rfl rfl rfl (VO.t (v := .bool false) (t_pick (b := false) rfl rfl (fun h => by cases h) (fun _ => (fun _ _ => rfl))) rfl rfl ?_)))))))))
                          refine VO.t (t_move rfl rfl) rfl rfl (VO.gskip rfl rfl rfl rfl rfl (VO.gskip rfl rfl rfl rfl rfl (VO.gskip rfl rfl rfl rfl rfl (VO.t (v := .bool false) (t_pick (b := false) rfl rfl (fun h => by cases h) (fun _ => (fun _ _ => rfl))) rfl rfl (VO.t (t_move rfl rfl) rfl rfl (VO.gskip rfl rfl rfl rfl rfl (VO.gskip rfl rfl rfl rfl rfl (VO.gskip rfl rfl rfl rfl rfl (VO.t (v := .bool false) (t_pick (b := false) rfl rfl (fun h => by cases h) (fun _ => (fun _ _ => rfl))) rfl rfl ?_)))))))))
                          refine VO.t (t_move rfl rfl) rfl rfl (VO.gskip rfl rfl rfl rfl rfl (VO.t (v := .bool false) (t_pick (b := false) rfl rfl (fun h => by cases h) (fun _ => (fun _ _ => rfl))) rfl rfl (VO.t (v := .bool false) (t_assign rfl rfl) rfl rfl (VO.nil (thenQ_normal (VW.subK (.c 4 rfl .n) rfl (VW.ret ?_)))))))
                          have h := Option.some.inj h
                          subst h
                          exact ⟨.inr rfl, rfl, _, .bool false, hq [] [], rfl, VLe.refl _, hq_sub .slnil .slnil, rfl, rfl⟩
                      · replace h := iteF h hc_6123
                        refine VO.gskip rfl rfl rfl rfl rfl (VO.gskip rfl rfl rfl rfl rfl (VO.gskip rfl rfl rfl rfl rfl (VO.t (v := .bool false) (t_pick (b := false) rfl rfl (fun h => by cases h) (fun _ => (fun _ _ => rfl))) rfl rfl (VO.t (t_move rfl rfl) rfl rfl (VO.gskip rfl rfl rfl rfl rfl (VO.gskip rfl rfl rfl rfl rfl (VO.gskip rfl rfl rfl rfl rfl (VO.t (v := .bool false) (t_pick (b := false) rfl rfl (fun h => by cases h) (fun _ => (fun _ _ => rfl))) rfl rfl (VO.t (t_move rfl rfl) rfl rfl ?_)))))))))
                        refine VO.gskip rfl rfl rfl rfl rfl (VO.gskip rfl rfl rfl rfl rfl (VO.gskip rfl rfl rfl rfl rfl (VO.gskip rfl rfl rfl rfl rfl (VO.t (v := .bool false) (t_pick (b := false) rfl rfl (fun h => by cases h) (fun _ => (fun _ _ => rfl))) rfl rfl (VO.t (t_move rfl rfl) rfl rfl (VO.gskip rfl rfl rfl rfl rfl (VO.gskip rfl rfl rfl rfl rfl (VO.gskip rfl rfl rfl rfl rfl (VO.t (v := .bool false) (t_pick (b := false) rfl rfl (fun h => by cases h) (fun _ => (fun _ _ => rfl))) rfl rfl ?_)))))))))
                        refine VO.t (t_move rfl rfl) rfl rfl (VO.gskip rfl rfl rfl rfl rfl (VO.gskip rfl rfl rfl rfl rfl (VO.gskip rfl rfl rfl rfl rfl (VO.t (v := .bool false) (t_pick (b := false) rfl rfl (fun h => by cases h) (fun _ => (fun _ _ => rfl))) rfl rfl (VO.t (t_move rfl rfl) rfl rfl (VO.gskip rfl rfl rfl rfl rfl (VO.t (v := .bool false) (t_pick (b := false) rfl rfl (fun h => by cases h) (fun _ => (fun _ _ => rfl))) rfl rfl (VO.t (v := .bool false) (t_assign rfl rfl) rfl rfl (VO.nil ?_)))))))))
                        refine thenQ_normal (VW.subK (.c 4 rfl .n) rfl (VW.ret ?_))
                        have h := Option.some.inj h
                        subst h
                        exact ⟨.inr rfl, rfl, _, .bool false, hq [] [], rfl, VLe.refl _, hq_sub .slnil .slnil, rfl, rfl⟩

theorem law03_count_ok (a0 : Node) (a1 : Int) (r : Int) (h : PL.law03_count a0 a1 = some r) :
    VCalls Try.prog 35 [.agg [.int .i64 a0.Op, .int .i64 a0.Lo, .int .i64 a0.Hi, .sl .fz (a0.Kids.map Node.c)], .int .i64 a1] (hq [] []) (fun v H => .int .i64 r = v ∧ H = hq [] []) := by
  revert h
  refine (PL.law03_count.l0.mutual_partial_correctness (motive_1 := fun a0 left_6163 i_6164 o => ∀ (Q : Exit → Env → HH → Prop) (ob_6137 : Nat) (hx0 : ∀ (left_6170 : Int), left_6170 = o → Q (.exit 0) ⟨[(1, .int .i64 left_6170)], []⟩ (hq [] [])), VW Try.prog 27 (codeAt [1, 1, 0, 1, 0, 0] (bodyOf Try.f35)) (thenQ (VL Try.prog 27 (codeAt [1, 1, 0, 1, 0, 0] (bodyOf Try.f35)) Q) Q) ⟨[(2, .ptr ob_6137 0), (1, .int .i64 left_6163), (5, .int .i64 i_6164)], []⟩ (hq ([[(ob_6137, .cells [.int .i64 a0.Op, .int .i64 a0.Lo, .int .i64 a0.Hi, .sl .fz (a0.Kids.map Node.c)])]]) [])) (motive_2 := fun a0 a1 r => VCalls Try.prog 35 [.agg [.int .i64 a0.Op, .int .i64 a0.Lo, .int .i64 a0.Hi, .sl .fz (a0.Kids.map Node.c)], .int .i64 a1] (hq [] []) (fun v H => .int .i64 r = v ∧ H = hq [] [])) ?_ ?_).2 a0 a1 r
  · intro _ _ ih_law03_count_l0 ih_law03_count a0 left_6163 i_6164 o h Q ob_6137 hx0
    refine VW.seq (VW.seq (VW.region (VO.t (t_move rfl rfl) rfl rfl (VO.t (v := .ptr ob_6137 3) (t_fieldAddr_ptr rfl fi36_3 rfl rfl) rfl rfl (VO.r (v := .sl .fz (a0.Kids.map Node.c)) (r_load_q (i := 0) rfl sz34 rfl rfl rfl) rfl rfl (VO.t (v := .int .i64 (a0.Kids.length : Int)) (t_len rfl ⟨_, Try.underlying34⟩ rfl (by rw [List.length_map])) rfl rfl (VO.t (v := .bool (decide (i_6164 < (a0.Kids.length : Int)))) (t_cmp rfl rfl rfl rfl rfl) rfl rfl (VO.t (t_move rfl rfl) rfl rfl ?_))))))))
    refine VO.caseB (d := 13) (b := (decide (i_6164 < (a0.Kids.length : Int)))) rfl (fun hc_6171 => ?_) (fun hc_6171 => ?_)
    · replace h := iteT h hc_6171
      refine VO.gt (v := .int .i64 left_6163) (t_move rfl rfl) rfl rfl rfl rfl (VO.gt (v := .bool (decide (left_6163 > 0))) (t_cmp rfl rfl rfl (fun _ _ => rfl) rfl) rfl rfl rfl rfl (VO.t (v := .bool (decide (left_6163 > 0))) (t_pick (b := true) rfl rfl (fun _ => rfl) (fun h => by cases h)) rfl rfl (VO.nil (thenQ_normal (VW.subK (.c 2 rfl (.c 1 rfl (.c 5 rfl (.c 14 rfl (.c 15 rfl (.c 16 rfl .n)))))) rfl ?_)))))
      refine VW.cond (b := (decide (left_6163 > 0))) rfl (fun hc_6172 => ?_) (fun hc_6172 => ?_)
      · replace h := iteT h hc_6172
        refine VW.skip (thenQ_normal (VW.subK (.c 2 rfl (.c 1 rfl (.c 5 rfl (.c 14 rfl (.c 15 rfl .n))))) rfl (VW.seq (VW.block (VW.region (VO.t (v := .ptr ob_6137 3) (t_fieldAddr_ptr rfl fi36_3 rfl rfl) rfl rfl (VO.r (v := .sl .fz (a0.Kids.map Node.c)) (r_load_q (i := 0) rfl sz34 rfl rfl rfl) rfl rfl (VO.t (t_move rfl rfl) rfl rfl ?_))))))))
        obtain ⟨c_6173, hc_6173, h⟩ := obind h
        refine VO.t (v := .vptr [.int .i64 c_6173.Op, .int .i64 c_6173.Lo, .int .i64 c_6173.Hi, .sl .fz (c_6173.Kids.map Node.c)]) (t_indexAddr rfl sl34 rfl rfl (getI_some hc_6173).1 (map_get (getI_some hc_6173).2 (Node.c_eq c_6173)) rfl) rfl rfl (VO.r (v := .agg [.int .i64 c_6173.Op, .int .i64 c_6173.Lo, .int .i64 c_6173.Hi, .sl .fz (c_6173.Kids.map Node.c)]) (r_load_v rfl sz36 rfl rfl) rfl rfl (VO.t (t_move rfl rfl) rfl rfl ?_))
        obtain ⟨rv_6174, hx_6175, h⟩ := obind h
        refine VO.w (fun v H' => .int .i64 rv_6174 = v ∧ H' = hq ([[(ob_6137, .cells [.int .i64 a0.Op, .int .i64 a0.Lo, .int .i64 a0.Hi, .sl .fz (a0.Kids.map Node.c)])]]) []) (w_call_q (sa := []) (sg := [[(ob_6137, .cells [.int .i64 a0.Op, .int .i64 a0.Lo, .int .i64 a0.Hi, .sl .fz (a0.Kids.map Node.c)])]]) (tks := []) rfl fn35 rfl ⟨_, _, rfl, rfl, _, _, rfl, rfl, rfl⟩ (ih_law03_count _ _ _ hx_6175) (by rintro v H' ⟨rfl, rfl⟩; exact ⟨[], rfl, rfl, rfl⟩)) rfl rfl ?_
        rintro _ _ ⟨rfl, rfl⟩
        refine VO.t (v := .int .i64 rv_6174) (t_assign rfl rfl) rfl rfl (VO.nil (blockQ_normal (thenQ_normal (VW.subK (.c 2 rfl (.c 5 rfl (.c 14 rfl (.c 15 rfl (.c 1 rfl .n))))) rfl (VW.region (VO.t (t_move rfl rfl) rfl rfl (VO.t (v := .int .i64 (w64 (i_6164 + 1))) (t_add rfl rfl (fun _ _ => rfl) rfl) rfl rfl (VO.t (v := .int .i64 (w64 (i_6164 + 1))) (t_assign rfl rfl) rfl rfl (VO.nil ?_)))))))))
        refine thenQ_normal (VL.round ?_)
        refine VW.subK (.c 2 rfl (.c 1 rfl (.c 5 rfl .n))) rfl ?_
        exact ih_law03_count_l0 _ _ _ _ h _ ob_6137 hx0
      · replace h := iteF h hc_6172
        refine VW.subK (.c 1 rfl .n) rfl (VW.hsub (A := hq [] []) (hq_sub (.cons _ .slnil) .slnil) (VW.exit (thenQ_exit (thenQ_exit ?_))))
        have h := Option.some.inj h
        subst h
        exact hx0 _ rfl
    · replace h := iteF h hc_6171
      refine VO.gskip rfl rfl rfl rfl rfl (VO.gskip rfl rfl rfl rfl rfl (VO.t (v := .bool false) (t_pick (b := false) rfl rfl (fun h => by cases h) (fun _ => (fun _ _ => rfl))) rfl rfl (VO.nil (thenQ_normal (VW.subK (.c 2 rfl (.c 1 rfl (.c 5 rfl (.c 14 rfl (.c 15 rfl (.c 16 rfl .n)))))) rfl (VW.condF rfl (VW.subK (.c 1 rfl .n) rfl (VW.hsub (A := hq [] []) (hq_sub (.cons _ .slnil) .slnil) (VW.exit ?_)))))))))
      refine thenQ_exit (thenQ_exit ?_)
      have h := Option.some.inj h
      subst h
      exact hx0 _ rfl
  · intro _ ih_law03_count_l0 a0 a1 r h 
    refine VCalls.of_body 27 [4] Try.func35 rfl rfl rfl (Nat.le_of_ble_eq_true rfl) (VW.subK (.c 0 rfl (.c 1 rfl .n)) rfl (VW.seq (VW.region (VO.w (fun v H' => ∃ ob_6137, .ptr ob_6137 0 = v ∧ H' = hq ([[(ob_6137, .cells [.int .i64 a0.Op, .int .i64 a0.Lo, .int .i64 a0.Hi, .sl .fz (a0.Kids.map Node.c)])]]) []) (w_box_q rfl rfl rfl (fun ob => ⟨ob, rfl, rfl⟩)) rfl rfl ?_))))
    rintro _ _ ⟨ob_6137, rfl, rfl⟩
    refine VO.t (v := .int .i64 0) (t_assign rfl (fun _ _ => rfl)) rfl rfl (VO.nil (thenQ_normal (VW.subK (.c 1 rfl (.c 2 rfl .n)) rfl (VW.seq (VW.region (VO.t (t_move rfl rfl) rfl rfl (VO.t (v := .int .i64 (w64 (a1 - 1))) (t_sub rfl rfl (fun _ _ => rfl) rfl) rfl rfl (VO.t (v := .int .i64 (w64 (a1 - 1))) (t_assign rfl rfl) rfl rfl (VO.nil ?_)))))))))
    refine thenQ_normal (VW.subK (.c 2 rfl (.c 1 rfl .n)) rfl (VW.seq (VW.seq (VW.region (VO.t (v := .int .i64 0) (t_assign rfl (fun _ _ => rfl)) rfl rfl (VO.nil (thenQ_normal (VW.block (VW.subK (.c 2 rfl (.c 1 rfl (.c 5 rfl .n))) rfl ?_)))))))))
    obtain ⟨o_6176, hx_6177, h⟩ := obind h
    refine VW.loopL (ih_law03_count_l0 _ _ _ _ hx_6177 _ ob_6137 ?_)
    · intro left_6170 ho_
      subst ho_
      try dsimp only at h
      refine blockQ_hit (thenQ_normal (VW.seq (VW.region (VO.t (t_move rfl rfl) rfl rfl (VO.t (v := .int .i64 left_6170) (t_assign rfl rfl) rfl rfl (VO.nil (thenQ_normal (VW.subK (.c 4 rfl .n) rfl (VW.ret ?_)))))))))
      have h := Option.some.inj h
      subst h
      exact ⟨.inr rfl, rfl, _, .int .i64 left_6170, hq [] [], rfl, VLe.refl _, hq_sub .slnil .slnil, rfl, rfl⟩

theorem law03_large_ok (a0 : Node) (r : Bool) (h : PL.law03_large a0 = some r) :
    VCalls Try.prog 20 [.agg [.int .i64 a0.Op, .int .i64 a0.Lo, .int .i64 a0.Hi, .sl .fz (a0.Kids.map Node.c)]] (hq [] []) (fun v H => .bool r = v ∧ H = hq [] []) := by
  unfold PL.law03_large at h
  refine VCalls.of_body 6 [2] Try.func20 rfl rfl rfl (Nat.le_of_ble_eq_true rfl) (VW.subK (.c 0 rfl .n) rfl (VW.seq (VW.region (VO.w (fun v H' => ∃ ob_6178, .ptr ob_6178 0 = v ∧ H' = hq ([[(ob_6178, .cells [.int .i64 a0.Op, .int .i64 a0.Lo, .int .i64 a0.Hi, .sl .fz (a0.Kids.map Node.c)])]]) []) (w_box_q rfl rfl rfl (fun ob => ⟨ob, rfl, rfl⟩)) rfl rfl ?_))))
  rintro _ _ ⟨ob_6178, rfl, rfl⟩
  refine VO.t (v := .bool false) (t_assign rfl (fun _ _ => rfl)) rfl rfl (VO.nil (thenQ_normal (VW.subK (.c 1 rfl .n) rfl (VW.seq (VW.region (VO.r (v := .agg [.int .i64 a0.Op, .int .i64 a0.Lo, .int .i64 a0.Hi, .sl .fz (a0.Kids.map Node.c)]) (r_load_q (i := 0) rfl sz36 rfl rfl rfl) rfl rfl ?_))))))
  obtain ⟨rv_6179, hx_6180, h⟩ := obind h
  refine VO.w (fun v H' => .int .i64 rv_6179 = v ∧ H' = hq ([[(ob_6178, .cells [.int .i64 a0.Op, .int .i64 a0.Lo, .int .i64 a0.Hi, .sl .fz (a0.Kids.map Node.c)])]]) []) (w_call_q (sa := []) (sg := [[(ob_6178, .cells [.int .i64 a0.Op, .int .i64 a0.Lo, .int .i64 a0.Hi, .sl .fz (a0.Kids.map Node.c)])]]) (tks := []) rfl fn35 rfl ⟨_, _, rfl, rfl, .int .i64 400, _, rfl, (fun _ _ => rfl), rfl⟩ (law03_count_ok _ _ _ hx_6180) (by rintro v H' ⟨rfl, rfl⟩; exact ⟨[], rfl, rfl, rfl⟩)) rfl rfl ?_
  rintro _ _ ⟨rfl, rfl⟩
  refine VO.t (v := .bool (decide (rv_6179 ≤ 0))) (t_cmp rfl rfl rfl (fun _ _ => rfl) rfl) rfl rfl (VO.t (v := .bool (decide (rv_6179 ≤ 0))) (t_assign rfl rfl) rfl rfl (VO.nil (thenQ_normal (VW.subK (.c 2 rfl .n) rfl (VW.hsub (A := hq [] []) (hq_sub (.cons _ .slnil) .slnil) (VW.ret ?_))))))
  have h := Option.some.inj h
  subst h
  exact ⟨.inr rfl, rfl, _, .bool (decide (rv_6179 ≤ 0)), hq [] [], rfl, VLe.refl _, hq_sub .slnil .slnil, rfl, rfl⟩

theorem ref03_size_ok (a0 : Node) (r : Int × Int) (h : PL.ref03_size a0 = some r) :
    VCalls Try.prog 36 [.agg [.int .i64 a0.Op, .int .i64 a0.Lo, .int .i64 a0.Hi, .sl .fz (a0.Kids.map Node.c)]] (hq [] []) (fun v H => .tup [.int .i64 r.1, .int .i64 r.2] = v ∧ H = hq [] []) := by
  revert h
  refine (PL.ref03_size.l0.mutual_partial_correctness (motive_1 := fun a0 nodes_6229 deep_6230 i_6231 o => ∀ (Q : Exit → Env → HH → Prop) (ob_6181 : Nat) (hx0 : ∀ (nodes_6238 : Int) (deep_6239 : Int), (nodes_6238, deep_6239) = o → Q (.exit 0) ⟨[(4, .int .i64 nodes_6238), (5, .int .i64 deep_6239)], []⟩ (hq [] [])), VW Try.prog 38 (codeAt [1, 1, 1, 0, 1, 0, 0] (bodyOf Try.f36)) (thenQ (VL Try.prog 38 (codeAt [1, 1, 1, 0, 1, 0, 0] (bodyOf Try.f36)) Q) Q) ⟨[(1, .ptr ob_6181 0), (4, .int .i64 nodes_6229), (5, .int .i64 deep_6230), (6, .int .i64 i_6231)], []⟩ (hq ([[(ob_6181, .cells [.int .i64 a0.Op, .int .i64 a0.Lo, .int .i64 a0.Hi, .sl .fz (a0.Kids.map Node.c)])]]) [])) (motive_2 := fun a0 r => VCalls Try.prog 36 [.agg [.int .i64 a0.Op, .int .i64 a0.Lo, .int .i64 a0.Hi, .sl .fz (a0.Kids.map Node.c)]] (hq [] []) (fun v H => .tup [.int .i64 r.1, .int .i64 r.2] = v ∧ H = hq [] [])) ?_ ?_).2 a0 r
  · intro _ _ ih_ref03_size_l0 ih_ref03_size a0 nodes_6229 deep_6230 i_6231 o h Q ob_6181 hx0
    refine VW.seq (VW.seq (VW.region (VO.t (t_move rfl rfl) rfl rfl (VO.t (v := .ptr ob_6181 3) (t_fieldAddr_ptr rfl fi36_3 rfl rfl) rfl rfl (VO.r (v := .sl .fz (a0.Kids.map Node.c)) (r_load_q (i := 0) rfl sz34 rfl rfl rfl) rfl rfl (VO.t (v := .int .i64 (a0.Kids.length : Int)) (t_len rfl ⟨_, Try.underlying34⟩ rfl (by rw [List.length_map])) rfl rfl (VO.t (v := .bool (decide (i_6231 < (a0.Kids.length : Int)))) (t_cmp rfl rfl rfl rfl rfl) rfl rfl (VO.t (t_move rfl rfl) rfl rfl ?_))))))))
    refine VO.caseB (d := 14) (b := (decide (i_6231 < (a0.Kids.length : Int)))) rfl (fun hc_6240 => ?_) (fun hc_6240 => ?_)
    · replace h := iteT h hc_6240
      refine VO.gt (v := .int .i64 nodes_6229) (t_move rfl rfl) rfl rfl rfl rfl (VO.gt (v := .bool (decide (nodes_6229 ≤ 200))) (t_cmp rfl rfl rfl (fun _ _ => rfl) rfl) rfl rfl rfl rfl (VO.t (v := .bool (decide (nodes_6229 ≤ 200))) (t_pick (b := true) rfl rfl (fun _ => rfl) (fun h => by cases h)) rfl rfl (VO.nil (thenQ_normal (VW.subK (.c 1 rfl (.c 4 rfl (.c 5 rfl (.c 6 rfl (.c 15 rfl (.c 16 rfl (.c 17 rfl .n))))))) rfl ?_)))))
      refine VW.cond (b := (decide (nodes_6229 ≤ 200))) rfl (fun hc_6241 => ?_) (fun hc_6241 => ?_)
      · replace h := iteT h hc_6241
        refine VW.skip (thenQ_normal (VW.subK (.c 1 rfl (.c 4 rfl (.c 5 rfl (.c 6 rfl (.c 15 rfl (.c 16 rfl .n)))))) rfl (VW.seq (VW.block (VW.seq (VW.region (VO.t (v := .ptr ob_6181 3) (t_fieldAddr_ptr rfl fi36_3 rfl rfl) rfl rfl (VO.r (v := .sl .fz (a0.Kids.map Node.c)) (r_load_q (i := 0) rfl sz34 rfl rfl rfl) rfl rfl (VO.t (t_move rfl rfl) rfl rfl ?_)))))))))
        obtain ⟨c_6242, hc_6242, h⟩ := obind h
        refine VO.t (v := .vptr [.int .i64 c_6242.Op, .int .i64 c_6242.Lo, .int .i64 c_6242.Hi, .sl .fz (c_6242.Kids.map Node.c)]) (t_indexAddr rfl sl34 rfl rfl (getI_some hc_6242).1 (map_get (getI_some hc_6242).2 (Node.c_eq c_6242)) rfl) rfl rfl (VO.r (v := .agg [.int .i64 c_6242.Op, .int .i64 c_6242.Lo, .int .i64 c_6242.Hi, .sl .fz (c_6242.Kids.map Node.c)]) (r_load_v rfl sz36 rfl rfl) rfl rfl ?_)
        obtain ⟨⟨rv_6243, rv_6244⟩, hx_6245, h⟩ := obind h
        try dsimp only at h
        refine VO.w (fun v H' => .tup [.int .i64 rv_6243, .int .i64 rv_6244] = v ∧ H' = hq ([[(ob_6181, .cells [.int .i64 a0.Op, .int .i64 a0.Lo, .int .i64 a0.Hi, .sl .fz (a0.Kids.map Node.c)])]]) []) (w_call_q (sa := []) (sg := [[(ob_6181, .cells [.int .i64 a0.Op, .int .i64 a0.Lo, .int .i64 a0.Hi, .sl .fz (a0.Kids.map Node.c)])]]) (tks := []) rfl fn36 rfl ⟨_, _, rfl, rfl, rfl⟩ (ih_ref03_size _ _ hx_6245) (by rintro v H' ⟨rfl, rfl⟩; exact ⟨[], rfl, rfl, rfl⟩)) rfl rfl ?_
        rintro _ _ ⟨rfl, rfl⟩
        refine VO.t (t_move rfl rfl) rfl rfl (VO.t (v := .int .i64 rv_6243) (t_extract rfl rfl rfl) rfl rfl (VO.t (v := .int .i64 rv_6244) (t_extract rfl rfl rfl) rfl rfl (VO.t (v := .int .i64 rv_6243) (t_assign rfl rfl) rfl rfl (VO.t (v := .int .i64 rv_6244) (t_assign rfl rfl) rfl rfl (VO.nil (thenQ_normal (VW.subK (.c 1 rfl (.c 4 rfl (.c 5 rfl (.c 6 rfl (.c 15 rfl (.c 16 rfl (.c 7 rfl (.c 8 rfl .n)))))))) rfl (VW.seq (VW.region ?_)))))))))
        refine VO.t (t_move rfl rfl) rfl rfl (VO.t (t_move rfl rfl) rfl rfl (VO.t (v := .int .i64 (w64 (nodes_6229 + rv_6243))) (t_add rfl rfl rfl rfl) rfl rfl (VO.t (v := .int .i64 (w64 (nodes_6229 + rv_6243))) (t_assign rfl rfl) rfl rfl (VO.nil (thenQ_normal (VW.subK (.c 1 rfl (.c 5 rfl (.c 6 rfl (.c 15 rfl (.c 16 rfl (.c 8 rfl (.c 4 rfl .n))))))) rfl (VW.region (VO.t (t_move rfl rfl) rfl rfl (VO.t (t_move rfl rfl) rfl rfl ?_)))))))))
        refine VO.t (v := .int .i64 (max deep_6230 rv_6244)) (t_max rfl rfl rfl rfl) rfl rfl (VO.t (v := .int .i64 (max deep_6230 rv_6244)) (t_assign rfl rfl) rfl rfl (VO.nil (blockQ_normal (thenQ_normal (VW.subK (.c 1 rfl (.c 6 rfl (.c 15 rfl (.c 16 rfl (.c 4 rfl (.c 5 rfl .n)))))) rfl (VW.region (VO.t (t_move rfl rfl) rfl rfl (VO.t (v := .int .i64 (w64 (i_6231 + 1))) (t_add rfl rfl (fun _ _ => rfl) rfl) rfl rfl (VO.t (v := .int .i64 (w64 (i_6231 + 1))) (t_assign rfl rfl) rfl rfl ?_)))))))))
        refine VO.nil (thenQ_normal (VL.round ?_))
        refine VW.subK (.c 1 rfl (.c 4 rfl (.c 5 rfl (.c 6 rfl .n)))) rfl ?_
        exact ih_ref03_size_l0 _ _ _ _ _ h _ ob_6181 hx0
      · replace h := iteF h hc_6241
        refine VW.subK (.c 4 rfl (.c 5 rfl .n)) rfl (VW.hsub (A := hq [] []) (hq_sub (.cons _ .slnil) .slnil) (VW.exit (thenQ_exit (thenQ_exit ?_))))
        have h := Option.some.inj h
        subst h
        exact hx0 _ _ rfl
    · replace h := iteF h hc_6240
      refine VO.gskip rfl rfl rfl rfl rfl (VO.gskip rfl rfl rfl rfl rfl (VO.t (v := .bool false) (t_pick (b := false) rfl rfl (fun h => by cases h) (fun _ => (fun _ _ => rfl))) rfl rfl (VO.nil (thenQ_normal (VW.subK (.c 1 rfl (.c 4 rfl (.c 5 rfl (.c 6 rfl (.c 15 rfl (.c 16 rfl (.c 17 rfl .n))))))) rfl (VW.condF rfl (VW.subK (.c 4 rfl (.c 5 rfl .n)) rfl (VW.hsub (A := hq [] []) (hq_sub (.cons _ .slnil) .slnil) (VW.exit ?_)))))))))
      refine thenQ_exit (thenQ_exit ?_)
      have h := Option.some.inj h
      subst h
      exact hx0 _ _ rfl
  · intro _ ih_ref03_size_l0 a0 r h 
    refine VCalls.of_body 38 [2, 3] Try.func36 rfl rfl rfl (Nat.le_of_ble_eq_true rfl) (VW.subK (.c 0 rfl .n) rfl (VW.seq (VW.region (VO.w (fun v H' => ∃ ob_6181, .ptr ob_6181 0 = v ∧ H' = hq ([[(ob_6181, .cells [.int .i64 a0.Op, .int .i64 a0.Lo, .int .i64 a0.Hi, .sl .fz (a0.Kids.map Node.c)])]]) []) (w_box_q rfl rfl rfl (fun ob => ⟨ob, rfl, rfl⟩)) rfl rfl ?_))))
    rintro _ _ ⟨ob_6181, rfl, rfl⟩
    refine VO.t (v := .int .i64 0) (t_assign rfl (fun _ _ => rfl)) rfl rfl (VO.t (v := .int .i64 0) (t_assign rfl (fun _ _ => rfl)) rfl rfl (VO.nil (thenQ_normal (VW.subK (.c 1 rfl .n) rfl (VW.seq (VW.region (VO.t (v := .int .i64 1) (t_assign rfl (fun _ _ => rfl)) rfl rfl (VO.nil (thenQ_normal ?_)))))))))
    refine VW.seq (VW.region (VO.t (v := .int .i64 0) (t_assign rfl (fun _ _ => rfl)) rfl rfl (VO.nil (thenQ_normal (VW.seq (VW.seq (VW.region (VO.t (v := .int .i64 0) (t_assign rfl (fun _ _ => rfl)) rfl rfl (VO.nil ?_)))))))))
    refine thenQ_normal (VW.block (VW.subK (.c 1 rfl (.c 4 rfl (.c 5 rfl (.c 6 rfl .n)))) rfl ?_))
    obtain ⟨o_6246, hx_6247, h⟩ := obind h
    refine VW.loopL (ih_ref03_size_l0 _ _ _ _ _ hx_6247 _ ob_6181 ?_)
    · intro nodes_6238 deep_6239 ho_
      subst ho_
      try dsimp only at h
      refine blockQ_hit (thenQ_normal (VW.seq (VW.region (VO.t (t_move rfl rfl) rfl rfl (VO.t (t_move rfl rfl) rfl rfl (VO.t (v := .int .i64 (w64 (deep_6239 + 1))) (t_add rfl rfl (fun _ _ => rfl) rfl) rfl rfl (VO.t (v := .int .i64 nodes_6238) (t_assign rfl rfl) rfl rfl (VO.t (v := .int .i64 (w64 (deep_6239 + 1))) (t_assign rfl rfl) rfl rfl (VO.nil ?_)))))))))
      refine thenQ_normal (VW.subK (.c 2 rfl (.c 3 rfl .n)) rfl (VW.ret ?_))
      have h := Option.some.inj h
      subst h
      exact ⟨.inr rfl, rfl, _, .tup [.int .i64 nodes_6238, .int .i64 (w64 (deep_6239 + 1))], hq [] [], ⟨_, _, rfl, rfl, rfl⟩, VLe.tup ⟨VLe.refl _, VLe.refl _, trivial⟩, hq_sub .slnil .slnil, rfl, rfl⟩

theorem ref03_shaped_ok (a0 : Node) (r : Bool) (h : PL.ref03_shaped a0 = some r) :
    VCalls Try.prog 37 [.agg [.int .i64 a0.Op, .int .i64 a0.Lo, .int .i64 a0.Hi, .sl .fz (a0.Kids.map Node.c)]] (hq [] []) (fun v H => .bool r = v ∧ H = hq [] []) := by
  revert h
  refine (PL.ref03_shaped.l0.mutual_partial_correctness (motive_1 := fun a0 i_6295 o => ∀ (Q : Exit → Env → HH → Prop) (ob_6248 : Nat) (hx0 : Sum.inl () = o → Q (.exit 1) ⟨[], []⟩ (hq [] [])) (hx1 : Sum.inr () = o → Q .ret ⟨[(2, .bool false)], []⟩ (hq [] [])), VW Try.prog 68 (codeAt [1, 1, 1, 1, 0, 1, 0, 0] (bodyOf Try.f37)) (thenQ (VL Try.prog 68 (codeAt [1, 1, 1, 1, 0, 1, 0, 0] (bodyOf Try.f37)) Q) Q) ⟨[(1, .ptr ob_6248 0), (3, .int .i64 (a0.Kids.length : Int)), (4, .int .i64 i_6295)], []⟩ (hq ([[(ob_6248, .cells [.int .i64 a0.Op, .int .i64 a0.Lo, .int .i64 a0.Hi, .sl .fz (a0.Kids.map Node.c)])]]) [])) (motive_2 := fun a0 r => VCalls Try.prog 37 [.agg [.int .i64 a0.Op, .int .i64 a0.Lo, .int .i64 a0.Hi, .sl .fz (a0.Kids.map Node.c)]] (hq [] []) (fun v H => .bool r = v ∧ H = hq [] [])) ?_ ?_).2 a0 r
  · intro _ _ ih_ref03_shaped_l0 ih_ref03_shaped a0 i_6295 o h Q ob_6248 hx0 hx1
    refine VW.seq (VW.seq (VW.region (VO.t (t_move rfl rfl) rfl rfl (VO.t (t_move rfl rfl) rfl rfl (VO.t (v := .bool (decide (i_6295 < (a0.Kids.length : Int)))) (t_cmp rfl rfl rfl rfl rfl) rfl rfl (VO.nil (thenQ_normal (VW.subK (.c 1 rfl (.c 3 rfl (.c 4 rfl (.c 58 rfl .n)))) rfl ?_))))))))
    refine VW.cond (b := (decide (i_6295 < (a0.Kids.length : Int)))) rfl (fun hc_6301 => ?_) (fun hc_6301 => ?_)
    · replace h := iteT h hc_6301
      refine VW.skip (thenQ_normal (VW.subK (.c 1 rfl (.c 3 rfl (.c 4 rfl .n))) rfl (VW.seq (VW.block (VW.seq (VW.region (VO.t (v := .ptr ob_6248 3) (t_fieldAddr_ptr rfl fi36_3 rfl rfl) rfl rfl (VO.r (v := .sl .fz (a0.Kids.map Node.c)) (r_load_q (i := 0) rfl sz34 rfl rfl rfl) rfl rfl (VO.t (t_move rfl rfl) rfl rfl ?_)))))))))
      obtain ⟨c_6302, hc_6302, h⟩ := obind h
      refine VO.t (v := .vptr [.int .i64 c_6302.Op, .int .i64 c_6302.Lo, .int .i64 c_6302.Hi, .sl .fz (c_6302.Kids.map Node.c)]) (t_indexAddr rfl sl34 rfl rfl (getI_some hc_6302).1 (map_get (getI_some hc_6302).2 (Node.c_eq c_6302)) rfl) rfl rfl (VO.r (v := .agg [.int .i64 c_6302.Op, .int .i64 c_6302.Lo, .int .i64 c_6302.Hi, .sl .fz (c_6302.Kids.map Node.c)]) (r_load_v rfl sz36 rfl rfl) rfl rfl ?_)
      obtain ⟨rv_6303, hx_6304, h⟩ := obind h
      refine VO.w (fun v H' => .bool rv_6303 = v ∧ H' = hq ([[(ob_6248, .cells [.int .i64 a0.Op, .int .i64 a0.Lo, .int .i64 a0.Hi, .sl .fz (a0.Kids.map Node.c)])]]) []) (w_call_q (sa := []) (sg := [[(ob_6248, .cells [.int .i64 a0.Op, .int .i64 a0.Lo, .int .i64 a0.Hi, .sl .fz (a0.Kids.map Node.c)])]]) (tks := []) rfl fn37 rfl ⟨_, _, rfl, rfl, rfl⟩ (ih_ref03_shaped _ _ hx_6304) (by rintro v H' ⟨rfl, rfl⟩; exact ⟨[], rfl, rfl, rfl⟩)) rfl rfl ?_
      rintro _ _ ⟨rfl, rfl⟩
      refine VO.t (v := .bool (!rv_6303)) (t_not rfl rfl rfl) rfl rfl (VO.nil (thenQ_normal (VW.subK (.c 1 rfl (.c 3 rfl (.c 4 rfl (.c 67 rfl .n)))) rfl ?_)))
      refine VW.cond (b := (!rv_6303)) rfl (fun hc_6305 => ?_) (fun hc_6305 => ?_)
      · replace h := iteT h hc_6305
        refine VW.seq (VW.region (VO.t (v := .bool false) (t_assign rfl (fun _ _ => rfl)) rfl rfl (VO.nil (thenQ_normal (VW.subK (.c 2 rfl .n) rfl (VW.hsub (A := hq [] []) (hq_sub (.cons _ .slnil) .slnil) (VW.subK (.c 2 rfl .n) rfl (VW.ret (blockQ_ret ?_)))))))))
        refine thenQ_ret (thenQ_ret ?_)
        have h := Option.some.inj h
        subst h
        exact hx1  rfl
      · replace h := iteF h hc_6305
        refine VW.skip (blockQ_normal (thenQ_normal (VW.subK (.c 1 rfl (.c 3 rfl (.c 4 rfl .n))) rfl (VW.region (VO.t (t_move rfl rfl) rfl rfl (VO.t (v := .int .i64 (w64 (i_6295 + 1))) (t_add rfl rfl (fun _ _ => rfl) rfl) rfl rfl (VO.t (v := .int .i64 (w64 (i_6295 + 1))) (t_assign rfl rfl) rfl rfl (VO.nil (thenQ_normal (VL.round ?_))))))))))
        refine VW.subK (.c 1 rfl (.c 3 rfl (.c 4 rfl .n))) rfl ?_
        exact ih_ref03_shaped_l0 _ _ _ h _ ob_6248 hx0 hx1
    · replace h := iteF h hc_6301
      refine VW.subN (t' := []) trivial rfl (VW.hsub (A := hq [] []) (hq_sub (.cons _ .slnil) .slnil) (VW.exit (thenQ_exit (thenQ_exit ?_))))
      have h := Option.some.inj h
      subst h
      exact hx0  rfl
  · intro _ ih_ref03_shaped_l0 a0 r h 
    refine VCalls.of_body 68 [2] Try.func37 rfl rfl rfl (Nat.le_of_ble_eq_true rfl) (VW.subK (.c 0 rfl .n) rfl (VW.seq (VW.region (VO.w (fun v H' => ∃ ob_6248, .ptr ob_6248 0 = v ∧ H' = hq ([[(ob_6248, .cells [.int .i64 a0.Op, .int .i64 a0.Lo, .int .i64 a0.Hi, .sl .fz (a0.Kids.map Node.c)])]]) []) (w_box_q rfl rfl rfl (fun ob => ⟨ob, rfl, rfl⟩)) rfl rfl ?_))))
    rintro _ _ ⟨ob_6248, rfl, rfl⟩
    refine VO.t (v := .bool false) (t_assign rfl (fun _ _ => rfl)) rfl rfl (VO.nil (thenQ_normal (VW.subK (.c 1 rfl .n) rfl (VW.seq (VW.region (VO.t (v := .ptr ob_6248 3) (t_fieldAddr_ptr rfl fi36_3 rfl rfl) rfl rfl (VO.r (v := .sl .fz (a0.Kids.map Node.c)) (r_load_q (i := 0) rfl sz34 rfl rfl rfl) rfl rfl (VO.t (v := .int .i64 (a0.Kids.length : Int)) (t_len rfl ⟨_, Try.underlying34⟩ rfl (by rw [List.length_map])) rfl rfl (VO.t (v := .int .i64 (a0.Kids.length : Int)) (t_assign rfl rfl) rfl rfl ?_)))))))))
    refine VO.nil (thenQ_normal (VW.subK (.c 1 rfl (.c 3 rfl .n)) rfl (VW.seq (VW.seq (VW.region (VO.t (v := .ptr ob_6248 0) (t_fieldAddr_ptr rfl fi36_0 rfl rfl) rfl rfl (VO.r (v := .int .i64 a0.Op) (r_load_q (i := 0) rfl sz3 rfl rfl rfl) rfl rfl (VO.nil (thenQ_normal ?_)))))))))
    refine VW.subK (.c 1 rfl (.c 3 rfl (.c 9 rfl .n))) rfl ?_
    obtain ⟨o_6269, h, hx_6267⟩ := obind h
    refine VW.joinQ (E := Unit) (I := fun _ => Sum.inl () = o_6269 ∧ True) (env' := fun _ => ⟨[(1, .ptr ob_6248 0), (3, .int .i64 (a0.Kids.length : Int))], []⟩) (H' := fun _ => hq ([[(ob_6248, .cells [.int .i64 a0.Op, .int .i64 a0.Lo, .int .i64 a0.Hi, .sl .fz (a0.Kids.map Node.c)])]]) []) ?_ (fun J_6268 => ?_)
    · rintro _ ⟨ho_, _⟩
      subst ho_
      replace h := hx_6267
      clear hx_6267
      try dsimp only at h
      show VW _ _ _ _ ⟨[(1, .ptr ob_6248 0), (3, .int .i64 (a0.Kids.length : Int))], []⟩ (hq ([[(ob_6248, .cells [.int .i64 a0.Op, .int .i64 a0.Lo, .int .i64 a0.Hi, .sl .fz (a0.Kids.map Node.c)])]]) [])
      refine VW.seq (VW.seq (VW.region (VO.t (v := .ptr ob_6248 1) (t_fieldAddr_ptr rfl fi36_1 rfl rfl) rfl rfl (VO.r (v := .int .i64 a0.Lo) (r_load_q (i := 0) rfl sz3 rfl rfl rfl) rfl rfl (VO.t (v := .bool (a0.Lo != 0)) (t_cmp rfl rfl rfl (fun _ _ => rfl) rfl) rfl rfl (VO.t (t_move rfl rfl) rfl rfl ?_))))))
      refine VO.caseB (d := 51) (b := (a0.Lo != 0)) rfl (fun hc_6270 => ?_) (fun hc_6270 => ?_)
      · replace h := iteT h hc_6270
        refine VO.gskip rfl rfl rfl rfl rfl (VO.gskip rfl rfl rfl rfl rfl (VO.gskip rfl rfl rfl rfl rfl (VO.t (v := .bool true) (t_pick (b := true) rfl rfl (fun _ => (fun _ _ => rfl)) (fun h => by cases h)) rfl rfl (VO.nil (thenQ_normal (VW.subK (.c 1 rfl (.c 3 rfl (.c 55 rfl .n))) rfl (VW.condT rfl (VW.seq (VW.region ?_)))))))))
        refine VO.t (v := .bool false) (t_assign rfl (fun _ _ => rfl)) rfl rfl (VO.nil (thenQ_normal (VW.subK (.c 2 rfl .n) rfl (VW.hsub (A := hq [] []) (hq_sub (.cons _ .slnil) .slnil) (VW.ret (thenQ_ret ?_))))))
        have h := Option.some.inj h
        subst h
        exact ⟨.inr rfl, rfl, _, .bool false, hq [] [], rfl, VLe.refl _, hq_sub .slnil .slnil, rfl, rfl⟩
      · replace h := iteF h hc_6270
        refine VO.gt (v := .ptr ob_6248 2) (t_fieldAddr_ptr rfl fi36_2 rfl rfl) rfl rfl rfl rfl (VO.gr (v := .int .i64 a0.Hi) (r_load_q (i := 0) rfl sz3 rfl rfl rfl) rfl rfl rfl rfl (VO.gt (v := .bool (a0.Hi != 0)) (t_cmp rfl rfl rfl (fun _ _ => rfl) rfl) rfl rfl rfl rfl (VO.t (v := .bool (a0.Hi != 0)) (t_pick (b := false) rfl rfl (fun h => by cases h) (fun _ => rfl)) rfl rfl (VO.nil (thenQ_normal (VW.subK (.c 1 rfl (.c 3 rfl (.c 55 rfl .n))) rfl ?_))))))
        refine VW.cond (b := (a0.Hi != 0)) rfl (fun hc_6271 => ?_) (fun hc_6271 => ?_)
        · replace h := iteT h hc_6271
          refine VW.seq (VW.region (VO.t (v := .bool false) (t_assign rfl (fun _ _ => rfl)) rfl rfl (VO.nil (thenQ_normal (VW.subK (.c 2 rfl .n) rfl (VW.hsub (A := hq [] []) (hq_sub (.cons _ .slnil) .slnil) (VW.ret (thenQ_ret ?_))))))))
          have h := Option.some.inj h
          subst h
          exact ⟨.inr rfl, rfl, _, .bool false, hq [] [], rfl, VLe.refl _, hq_sub .slnil .slnil, rfl, rfl⟩
        · replace h := iteF h hc_6271
          refine VW.skip (thenQ_normal (VW.subK (.c 1 rfl (.c 3 rfl .n)) rfl (VW.seq (VW.seq (VW.region (VO.t (v := .int .i64 0) (t_assign rfl (fun _ _ => rfl)) rfl rfl (VO.nil (thenQ_normal (VW.block ?_)))))))))
          refine VW.subK (.c 1 rfl (.c 3 rfl (.c 4 rfl .n))) rfl ?_
          obtain ⟨o_6306, hx_6307, h⟩ := obind h
          refine VW.loopL (ih_ref03_shaped_l0 _ _ _ hx_6307 _ ob_6248 ?_ ?_)
          · intro ho_
            subst ho_
            try dsimp only at h
            refine blockQ_hit (thenQ_normal (VW.seq (VW.region (VO.t (v := .bool true) (t_assign rfl (fun _ _ => rfl)) rfl rfl (VO.nil (thenQ_normal (VW.ret ?_)))))))
            have h := Option.some.inj h
            subst h
            exact ⟨.inr rfl, rfl, _, .bool true, hq [] [], rfl, VLe.refl _, hq_sub .slnil .slnil, rfl, rfl⟩
          · intro ho_
            subst ho_
            try dsimp only at h
            refine blockQ_ret (thenQ_ret ?_)
            have h := Option.some.inj h
            subst h
            exact ⟨.inr rfl, rfl, _, .bool false, hq [] [], rfl, VLe.refl _, hq_sub .slnil .slnil, rfl, rfl⟩
    · refine VW.block (VW.seq (VW.region (VO.t (v := .bool (a0.Op == 0)) (t_cmp rfl rfl rfl (fun _ _ => rfl) rfl) rfl rfl (VO.t (v := .bool (a0.Op == 0)) (t_assign rfl rfl) rfl rfl (VO.nil (thenQ_normal (VW.subK (.c 1 rfl (.c 3 rfl (.c 9 rfl (.c 10 rfl .n)))) rfl ?_)))))))
      refine VW.cond (b := (a0.Op == 0)) rfl (fun hc_6308 => ?_) (fun hc_6308 => ?_)
      · replace h := iteT h hc_6308
        refine VW.seq (VW.region (VO.t (t_move rfl rfl) rfl rfl (VO.t (v := .bool ((a0.Kids.length : Int) == 0)) (t_cmp rfl rfl rfl (fun _ _ => rfl) rfl) rfl rfl (VO.t (t_move rfl rfl) rfl rfl ?_))))
        refine VO.caseB (d := 14) (b := ((a0.Kids.length : Int) == 0)) rfl (fun hc_6309 => ?_) (fun hc_6309 => ?_)
        · replace h := iteT h hc_6309
          refine VO.gt (v := .ptr ob_6248 1) (t_fieldAddr_ptr rfl fi36_1 rfl rfl) rfl rfl rfl rfl (VO.gr (v := .int .i64 a0.Lo) (r_load_q (i := 0) rfl sz3 rfl rfl rfl) rfl rfl rfl rfl (VO.gt (v := .ptr ob_6248 2) (t_fieldAddr_ptr rfl fi36_2 rfl rfl) rfl rfl rfl rfl (VO.gr (v := .int .i64 a0.Hi) (r_load_q (i := 0) rfl sz3 rfl rfl rfl) rfl rfl rfl rfl (VO.gt (v := .bool (decide (a0.Lo ≤ a0.Hi))) (t_cmp rfl rfl rfl rfl rfl) rfl rfl rfl rfl (VO.t (v := .bool (decide (a0.Lo ≤ a0.Hi))) (t_pick (b := true) rfl rfl (fun _ => rfl) (fun h => by cases h)) rfl rfl (VO.t (t_move rfl rfl) rfl rfl ?_))))))
          refine VO.caseB (d := 21) (b := (decide (a0.Lo ≤ a0.Hi))) rfl (fun hc_6310 => ?_) (fun hc_6310 => ?_)
          · replace h := iteT h hc_6310
            refine VO.gt (v := .ptr ob_6248 1) (t_fieldAddr_ptr rfl fi36_1 rfl rfl) rfl rfl rfl rfl (VO.gr (v := .int .i64 a0.Lo) (r_load_q (i := 0) rfl sz3 rfl rfl rfl) rfl rfl rfl rfl (VO.gt (v := .bool (decide (a0.Lo ≥ (-1000000000000000)))) (t_cmp rfl rfl rfl (fun _ _ => rfl) rfl) rfl rfl rfl rfl (VO.t (v := .bool (decide (a0.Lo ≥ (-1000000000000000)))) (t_pick (b := true) rfl rfl (fun _ => rfl) (fun h => by cases h)) rfl rfl (VO.t (t_move rfl rfl) rfl rfl ?_))))
            refine VO.caseB (d := 26) (b := (decide (a0.Lo ≥ (-1000000000000000)))) rfl (fun hc_6311 => ?_) (fun hc_6311 => ?_)
            · replace h := iteT h hc_6311
              refine VO.gt (v := .ptr ob_6248 2) (t_fieldAddr_ptr rfl fi36_2 rfl rfl) rfl rfl rfl rfl (VO.gr (v := .int .i64 a0.Hi) (r_load_q (i := 0) rfl sz3 rfl rfl rfl) rfl rfl rfl rfl (VO.gt (v := .bool (decide (a0.Hi ≤ 1000000000000000))) (t_cmp rfl rfl rfl (fun _ _ => rfl) rfl) rfl rfl rfl rfl (VO.t (v := .bool (decide (a0.Hi ≤ 1000000000000000))) (t_pick (b := true) rfl rfl (fun _ => rfl) (fun h => by cases h)) rfl rfl (VO.t (v := .bool (decide (a0.Hi ≤ 1000000000000000))) (t_assign rfl rfl) rfl rfl (VO.nil (thenQ_normal (VW.subK (.c 2 rfl .n) rfl (VW.hsub (A := hq [] []) (hq_sub (.cons _ .slnil) .slnil) (VW.ret ?_)))))))))
              refine blockQ_ret ?_
              obtain ⟨z_6312, hz_6313, h⟩ := obind h
              have h := Option.some.inj h
              subst h
              try dsimp only at hx_6267
              have hx_6267 := Option.some.inj hx_6267
              subst hx_6267
              have h := hz_6313
              refine thenQ_ret ?_
              have h := Option.some.inj h
              subst h
              exact ⟨.inr rfl, rfl, _, .bool (decide (a0.Hi ≤ 1000000000000000)), hq [] [], rfl, VLe.refl _, hq_sub .slnil .slnil, rfl, rfl⟩
            · replace h := iteF h hc_6311
              refine VO.gskip rfl rfl rfl rfl rfl (VO.gskip rfl rfl rfl rfl rfl (VO.gskip rfl rfl rfl rfl rfl (VO.t (v := .bool false) (t_pick (b := false) rfl rfl (fun h => by cases h) (fun _ => (fun _ _ => rfl))) rfl rfl (VO.t (v := .bool false) (t_assign rfl rfl) rfl rfl (VO.nil (thenQ_normal (VW.subK (.c 2 rfl .n) rfl (VW.hsub (A := hq [] []) (hq_sub (.cons _ .slnil) .slnil) (VW.ret ?_)))))))))
              refine blockQ_ret ?_
              obtain ⟨z_6314, hz_6315, h⟩ := obind h
              have h := Option.some.inj h
              subst h
              try dsimp only at hx_6267
              have hx_6267 := Option.some.inj hx_6267
              subst hx_6267
              have h := hz_6315
              refine thenQ_ret ?_
              have h := Option.some.inj h
              subst h
              exact ⟨.inr rfl, rfl, _, .bool false, hq [] [], rfl, VLe.refl _, hq_sub .slnil .slnil, rfl, rfl⟩
          · replace h := iteF h hc_6310
            refine VO.gskip rfl rfl rfl rfl rfl (VO.gskip rfl rfl rfl rfl rfl (VO.gskip rfl rfl rfl rfl rfl (VO.t (v := .bool false) (t_pick (b := false) rfl rfl (fun h => by cases h) (fun _ => (fun _ _ => rfl))) rfl rfl (VO.t (t_move rfl rfl) rfl rfl (VO.gskip rfl rfl rfl rfl rfl (VO.gskip rfl rfl rfl rfl rfl (VO.gskip rfl rfl rfl rfl rfl (VO.t (v := .bool false) (t_pick (b := false) rfl rfl (fun h => by cases h) (fun _ => (fun _ _ => rfl))) rfl rfl (VO.t (v := .bool false) (t_assign rfl rfl) rfl rfl ?_)))))))))
            refine VO.nil (thenQ_normal (VW.subK (.c 2 rfl .n) rfl (VW.hsub (A := hq [] []) (hq_sub (.cons _ .slnil) .slnil) (VW.ret (blockQ_ret ?_)))))
            obtain ⟨z_6316, hz_6317, h⟩ := obind h
            have h := Option.some.inj h
            subst h
            try dsimp only at hx_6267
            have hx_6267 := Option.some.inj hx_6267
            subst hx_6267
            have h := hz_6317
            refine thenQ_ret ?_
            have h := Option.some.inj h
            subst h
            exact ⟨.inr rfl, rfl, _, .bool false, hq [] [], rfl, VLe.refl _, hq_sub .slnil .slnil, rfl, rfl⟩
        · replace h := iteF h hc_6309
          refine VO.gskip rfl rfl rfl rfl rfl (VO.gskip rfl rfl rfl rfl rfl (VO.gskip rfl rfl rfl rfl rfl (VO.gskip rfl rfl rfl rfl rfl (VO.gskip rfl rfl rfl rfl rfl (VO.t (v := .bool false) (t_pick (b := false) rfl rfl (fun h => by cases h) (fun _ => (fun _ _ => rfl))) rfl rfl (VO.t (t_move rfl rfl) rfl rfl (VO.gskip rfl rfl rfl rfl rfl (VO.gskip rfl rfl rfl rfl rfl (VO.gskip rfl rfl rfl rfl rfl ?_)))))))))
          refine VO.t (v := .bool false) (t_pick (b := false) rfl rfl (fun h => by cases h) (fun _ => (fun _ _ => rfl))) rfl rfl (VO.t (t_move rfl rfl) rfl rfl (VO.gskip rfl rfl rfl rfl rfl (VO.gskip rfl rfl rfl rfl rfl (VO.gskip rfl rfl rfl rfl rfl (VO.t (v := .bool false) (t_pick (b := false) rfl rfl (fun h => by cases h) (fun _ => (fun _ _ => rfl))) rfl rfl (VO.t (v := .bool false) (t_assign rfl rfl) rfl rfl (VO.nil (thenQ_normal (VW.subK (.c 2 rfl .n) rfl ?_)))))))))
          refine VW.hsub (A := hq [] []) (hq_sub (.cons _ .slnil) .slnil) (VW.ret (blockQ_ret ?_))
          obtain ⟨z_6318, hz_6319, h⟩ := obind h
          have h := Option.some.inj h
          subst h
          try dsimp only at hx_6267
          have hx_6267 := Option.some.inj hx_6267
          subst hx_6267
          have h := hz_6319
          refine thenQ_ret ?_
          have h := Option.some.inj h
          subst h
          exact ⟨.inr rfl, rfl, _, .bool false, hq [] [], rfl, VLe.refl _, hq_sub .slnil .slnil, rfl, rfl⟩
      · replace h := iteF h hc_6308
        refine VW.seq (VW.seq (VW.region (VO.t (v := .bool (a0.Op == 1)) (t_cmp rfl rfl rfl (fun _ _ => rfl) rfl) rfl rfl (VO.t (v := .bool (a0.Op == 1)) (t_assign rfl rfl) rfl rfl (VO.nil (thenQ_normal (VW.subK (.c 1 rfl (.c 3 rfl (.c 9 rfl (.c 31 rfl .n)))) rfl ?_)))))))
        obtain ⟨o_6324, h, hx_6322⟩ := obind h
        refine VW.joinQ (E := Bool) (I := fun x_6321 => x_6321 = o_6324 ∧ True) (env' := fun x_6321 => ⟨[(1, .ptr ob_6248 0), (3, .int .i64 (a0.Kids.length : Int)), (9, .int .i64 a0.Op), (31, .bool x_6321)], []⟩) (H' := fun x_6321 => hq ([[(ob_6248, .cells [.int .i64 a0.Op, .int .i64 a0.Lo, .int .i64 a0.Hi, .sl .fz (a0.Kids.map Node.c)])]]) []) ?_ (fun J_6323 => ?_)
        · rintro x_6321 ⟨ho_, _⟩
          subst ho_
          replace h := hx_6322
          clear hx_6322
          try dsimp only at h
          show VW _ _ _ _ ⟨[(1, .ptr ob_6248 0), (3, .int .i64 (a0.Kids.length : Int)), (9, .int .i64 a0.Op), (31, .bool x_6321)], []⟩ (hq ([[(ob_6248, .cells [.int .i64 a0.Op, .int .i64 a0.Lo, .int .i64 a0.Hi, .sl .fz (a0.Kids.map Node.c)])]]) [])
          refine VW.cond (b := x_6321) rfl (fun hc_6325 => ?_) (fun hc_6325 => ?_)
          · replace h := iteT h hc_6325
            refine VW.seq (VW.region (VO.t (t_move rfl rfl) rfl rfl (VO.t (v := .bool (decide ((a0.Kids.length : Int) < 2))) (t_cmp rfl rfl rfl (fun _ _ => rfl) rfl) rfl rfl (VO.nil (thenQ_normal (VW.subK (.c 1 rfl (.c 3 rfl (.c 35 rfl .n))) rfl ?_))))))
            refine VW.cond (b := (decide ((a0.Kids.length : Int) < 2))) rfl (fun hc_6326 => ?_) (fun hc_6326 => ?_)
            · replace h := iteT h hc_6326
              refine VW.seq (VW.region (VO.t (v := .bool false) (t_assign rfl (fun _ _ => rfl)) rfl rfl (VO.nil (thenQ_normal (VW.subK (.c 2 rfl .n) rfl (VW.hsub (A := hq [] []) (hq_sub (.cons _ .slnil) .slnil) (VW.ret (blockQ_ret ?_))))))))
              obtain ⟨z_6327, hz_6328, h⟩ := obind h
              have h := Option.some.inj h
              subst h
              try dsimp only at hx_6267
              have hx_6267 := Option.some.inj hx_6267
              subst hx_6267
              have h := hz_6328
              refine thenQ_ret ?_
              have h := Option.some.inj h
              subst h
              exact ⟨.inr rfl, rfl, _, .bool false, hq [] [], rfl, VLe.refl _, hq_sub .slnil .slnil, rfl, rfl⟩
            · replace h := iteF h hc_6326
              refine VW.subK (.c 1 rfl (.c 3 rfl .n)) rfl (VW.skip (blockQ_normal ?_))
              exact thenQ_normal (J_6268 () ⟨Option.some.inj h, trivial⟩)
          · replace h := iteF h hc_6325
            refine VW.seq (VW.region (VO.t (v := .bool (a0.Op == 3)) (t_cmp rfl rfl rfl (fun _ _ => rfl) rfl) rfl rfl (VO.t (v := .bool (a0.Op == 3)) (t_assign rfl rfl) rfl rfl (VO.nil (thenQ_normal (VW.subK (.c 1 rfl (.c 3 rfl (.c 9 rfl (.c 36 rfl .n)))) rfl ?_))))))
            refine VW.cond (b := (a0.Op == 3)) rfl (fun hc_6329 => ?_) (fun hc_6329 => ?_)
            · replace h := iteT h hc_6329
              refine VW.seq (VW.region (VO.t (t_move rfl rfl) rfl rfl (VO.t (v := .bool ((a0.Kids.length : Int) != 2)) (t_cmp rfl rfl rfl (fun _ _ => rfl) rfl) rfl rfl (VO.nil (thenQ_normal (VW.subK (.c 1 rfl (.c 3 rfl (.c 39 rfl .n))) rfl ?_))))))
              refine VW.cond (b := ((a0.Kids.length : Int) != 2)) rfl (fun hc_6330 => ?_) (fun hc_6330 => ?_)
              · replace h := iteT h hc_6330
                refine VW.seq (VW.region (VO.t (v := .bool false) (t_assign rfl (fun _ _ => rfl)) rfl rfl (VO.nil (thenQ_normal (VW.subK (.c 2 rfl .n) rfl (VW.hsub (A := hq [] []) (hq_sub (.cons _ .slnil) .slnil) (VW.ret (blockQ_ret ?_))))))))
                obtain ⟨z_6331, hz_6332, h⟩ := obind h
                have h := Option.some.inj h
                subst h
                try dsimp only at hx_6267
                have hx_6267 := Option.some.inj hx_6267
                subst hx_6267
                have h := hz_6332
                refine thenQ_ret ?_
                have h := Option.some.inj h
                subst h
                exact ⟨.inr rfl, rfl, _, .bool false, hq [] [], rfl, VLe.refl _, hq_sub .slnil .slnil, rfl, rfl⟩
              · replace h := iteF h hc_6330
                refine VW.subK (.c 1 rfl (.c 3 rfl .n)) rfl (VW.skip (blockQ_normal ?_))
                exact thenQ_normal (J_6268 () ⟨Option.some.inj h, trivial⟩)
            · replace h := iteF h hc_6329
              refine VW.seq (VW.region (VO.t (v := .bool (a0.Op == 4)) (t_cmp rfl rfl rfl (fun _ _ => rfl) rfl) rfl rfl (VO.t (v := .bool (a0.Op == 4)) (t_assign rfl rfl) rfl rfl (VO.nil (thenQ_normal (VW.subK (.c 1 rfl (.c 3 rfl (.c 9 rfl (.c 40 rfl .n)))) rfl ?_))))))
              refine VW.cond (b := (a0.Op == 4)) rfl (fun hc_6333 => ?_) (fun hc_6333 => ?_)
              · replace h := iteT h hc_6333
                refine VW.seq (VW.region (VO.t (t_move rfl rfl) rfl rfl (VO.t (v := .bool ((a0.Kids.length : Int) != 0)) (t_cmp rfl rfl rfl (fun _ _ => rfl) rfl) rfl rfl (VO.nil (thenQ_normal (VW.subK (.c 1 rfl (.c 3 rfl (.c 43 rfl .n))) rfl ?_))))))
                refine VW.cond (b := ((a0.Kids.length : Int) != 0)) rfl (fun hc_6334 => ?_) (fun hc_6334 => ?_)
                · replace h := iteT h hc_6334
                  refine VW.seq (VW.region (VO.t (v := .bool false) (t_assign rfl (fun _ _ => rfl)) rfl rfl (VO.nil (thenQ_normal (VW.subK (.c 2 rfl .n) rfl (VW.hsub (A := hq [] []) (hq_sub (.cons _ .slnil) .slnil) (VW.ret (blockQ_ret ?_))))))))
                  obtain ⟨z_6335, hz_6336, h⟩ := obind h
                  have h := Option.some.inj h
                  subst h
                  try dsimp only at hx_6267
                  have hx_6267 := Option.some.inj hx_6267
                  subst hx_6267
                  have h := hz_6336
                  refine thenQ_ret ?_
                  have h := Option.some.inj h
                  subst h
                  exact ⟨.inr rfl, rfl, _, .bool false, hq [] [], rfl, VLe.refl _, hq_sub .slnil .slnil, rfl, rfl⟩
                · replace h := iteF h hc_6334
                  refine VW.subK (.c 1 rfl (.c 3 rfl .n)) rfl (VW.skip (blockQ_normal ?_))
                  exact thenQ_normal (J_6268 () ⟨Option.some.inj h, trivial⟩)
              · replace h := iteF h hc_6333
                refine VW.seq (VW.region (VO.t (v := .bool (a0.Op == 5)) (t_cmp rfl rfl rfl (fun _ _ => rfl) rfl) rfl rfl (VO.t (v := .bool (a0.Op == 5)) (t_assign rfl rfl) rfl rfl (VO.nil (thenQ_normal (VW.subK (.c 1 rfl (.c 3 rfl (.c 44 rfl .n))) rfl ?_))))))
                refine VW.cond (b := (a0.Op == 5)) rfl (fun hc_6337 => ?_) (fun hc_6337 => ?_)
                · replace h := iteT h hc_6337
                  refine VW.seq (VW.region (VO.t (t_move rfl rfl) rfl rfl (VO.t (v := .bool ((a0.Kids.length : Int) != 1)) (t_cmp rfl rfl rfl (fun _ _ => rfl) rfl) rfl rfl (VO.nil (thenQ_normal (VW.subK (.c 1 rfl (.c 3 rfl (.c 47 rfl .n))) rfl ?_))))))
                  refine VW.cond (b := ((a0.Kids.length : Int) != 1)) rfl (fun hc_6338 => ?_) (fun hc_6338 => ?_)
                  · replace h := iteT h hc_6338
                    refine VW.seq (VW.region (VO.t (v := .bool false) (t_assign rfl (fun _ _ => rfl)) rfl rfl (VO.nil (thenQ_normal (VW.subK (.c 2 rfl .n) rfl (VW.hsub (A := hq [] []) (hq_sub (.cons _ .slnil) .slnil) (VW.ret (blockQ_ret ?_))))))))
                    obtain ⟨z_6339, hz_6340, h⟩ := obind h
                    have h := Option.some.inj h
                    subst h
                    try dsimp only at hx_6267
                    have hx_6267 := Option.some.inj hx_6267
                    subst hx_6267
                    have h := hz_6340
                    refine thenQ_ret ?_
                    have h := Option.some.inj h
                    subst h
                    exact ⟨.inr rfl, rfl, _, .bool false, hq [] [], rfl, VLe.refl _, hq_sub .slnil .slnil, rfl, rfl⟩
                  · replace h := iteF h hc_6338
                    refine VW.subK (.c 1 rfl (.c 3 rfl .n)) rfl (VW.skip (blockQ_normal ?_))
                    exact thenQ_normal (J_6268 () ⟨Option.some.inj h, trivial⟩)
                · replace h := iteF h hc_6337
                  refine VW.seq (VW.region (VO.t (v := .bool false) (t_assign rfl (fun _ _ => rfl)) rfl rfl (VO.nil (thenQ_normal (VW.subK (.c 2 rfl .n) rfl (VW.hsub (A := hq [] []) (hq_sub (.cons _ .slnil) .slnil) (VW.ret (blockQ_ret ?_))))))))
                  obtain ⟨z_6341, hz_6342, h⟩ := obind h
                  have h := Option.some.inj h
                  subst h
                  try dsimp only at hx_6267
                  have hx_6267 := Option.some.inj hx_6267
                  subst hx_6267
                  have h := hz_6342
                  refine thenQ_ret ?_
                  have h := Option.some.inj h
                  subst h
                  exact ⟨.inr rfl, rfl, _, .bool false, hq [] [], rfl, VLe.refl _, hq_sub .slnil .slnil, rfl, rfl⟩
        · refine VW.cond (b := (a0.Op == 1)) rfl (fun hc_6343 => ?_) (fun hc_6343 => ?_)
          · replace h := iteT h hc_6343
            refine VW.subK (.c 1 rfl (.c 3 rfl (.c 9 rfl (.c 31 rfl .n)))) rfl (VW.skip ?_)
            exact thenQ_normal (J_6323 (a0.Op == 1) ⟨Option.some.inj h, trivial⟩)
          · replace h := iteF h hc_6343
            refine VW.region (VO.t (v := .bool (a0.Op == 2)) (t_cmp rfl rfl rfl (fun _ _ => rfl) rfl) rfl rfl (VO.t (v := .bool (a0.Op == 2)) (t_assign rfl rfl) rfl rfl (VO.subK (.c 1 rfl (.c 3 rfl (.c 9 rfl (.c 31 rfl .n)))) rfl (VO.nil ?_))))
            exact thenQ_normal (J_6323 (a0.Op == 2) ⟨Option.some.inj h, trivial⟩)

theorem ref03_Check_ok (a0 : Node) (r : Int) (h : PL.ref03_Check a0 = some r) :
    VCalls Try.prog 21 [.agg [.int .i64 a0.Op, .int .i64 a0.Lo, .int .i64 a0.Hi, .sl .fz (a0.Kids.map Node.c)]] (hq [] []) (fun v H => .int .i64 r = v ∧ H = hq [] []) := by
  unfold PL.ref03_Check at h
  refine VCalls.of_body 19 [2] Try.func21 rfl rfl rfl (Nat.le_of_ble_eq_true rfl) (VW.subK (.c 0 rfl .n) rfl (VW.seq (VW.region (VO.w (fun v H' => ∃ ob_6344, .ptr ob_6344 0 = v ∧ H' = hq ([[(ob_6344, .cells [.int .i64 a0.Op, .int .i64 a0.Lo, .int .i64 a0.Hi, .sl .fz (a0.Kids.map Node.c)])]]) []) (w_box_q rfl rfl rfl (fun ob => ⟨ob, rfl, rfl⟩)) rfl rfl ?_))))
  rintro _ _ ⟨ob_6344, rfl, rfl⟩
  refine VO.t (v := .int .i64 0) (t_assign rfl (fun _ _ => rfl)) rfl rfl (VO.nil (thenQ_normal (VW.subK (.c 1 rfl .n) rfl (VW.seq (VW.region (VO.r (v := .agg [.int .i64 a0.Op, .int .i64 a0.Lo, .int .i64 a0.Hi, .sl .fz (a0.Kids.map Node.c)]) (r_load_q (i := 0) rfl sz36 rfl rfl rfl) rfl rfl ?_))))))
  obtain ⟨⟨rv_6345, rv_6346⟩, hx_6347, h⟩ := obind h
  try dsimp only at h
  refine VO.w (fun v H' => .tup [.int .i64 rv_6345, .int .i64 rv_6346] = v ∧ H' = hq ([[(ob_6344, .cells [.int .i64 a0.Op, .int .i64 a0.Lo, .int .i64 a0.Hi, .sl .fz (a0.Kids.map Node.c)])]]) []) (w_call_q (sa := []) (sg := [[(ob_6344, .cells [.int .i64 a0.Op, .int .i64 a0.Lo, .int .i64 a0.Hi, .sl .fz (a0.Kids.map Node.c)])]]) (tks := []) rfl fn36 rfl ⟨_, _, rfl, rfl, rfl⟩ (ref03_size_ok _ _ hx_6347) (by rintro v H' ⟨rfl, rfl⟩; exact ⟨[], rfl, rfl, rfl⟩)) rfl rfl ?_
  rintro _ _ ⟨rfl, rfl⟩
  refine VO.t (t_move rfl rfl) rfl rfl (VO.t (v := .int .i64 rv_6345) (t_extract rfl rfl rfl) rfl rfl (VO.t (v := .int .i64 rv_6346) (t_extract rfl rfl rfl) rfl rfl (VO.t (v := .int .i64 rv_6345) (t_assign rfl rfl) rfl rfl (VO.t (v := .int .i64 rv_6346) (t_assign rfl rfl) rfl rfl (VO.nil (thenQ_normal (VW.subK (.c 1 rfl (.c 3 rfl (.c 4 rfl .n))) rfl (VW.seq (VW.seq ?_)))))))))
  refine VW.region (VO.t (t_move rfl rfl) rfl rfl (VO.t (v := .bool (decide (rv_6345 > 200))) (t_cmp rfl rfl rfl (fun _ _ => rfl) rfl) rfl rfl (VO.t (t_move rfl rfl) rfl rfl ?_)))
  refine VO.caseB (d := 12) (b := (decide (rv_6345 > 200))) rfl (fun hc_6348 => ?_) (fun hc_6348 => ?_)
  · replace h := iteT h hc_6348
    refine VO.gskip rfl rfl rfl rfl rfl (VO.gskip rfl rfl rfl rfl rfl (VO.t (v := .bool true) (t_pick (b := true) rfl rfl (fun _ => (fun _ _ => rfl)) (fun h => by cases h)) rfl rfl (VO.nil (thenQ_normal (VW.subK (.c 1 rfl (.c 15 rfl .n)) rfl (VW.condT rfl (VW.seq (VW.region (VO.t (v := .int .i64 2) (t_assign rfl (fun _ _ => rfl)) rfl rfl ?_)))))))))
    refine VO.nil (thenQ_normal (VW.subK (.c 2 rfl .n) rfl (VW.hsub (A := hq [] []) (hq_sub (.cons _ .slnil) .slnil) (VW.ret (thenQ_ret ?_)))))
    have h := Option.some.inj h
    subst h
    exact ⟨.inr rfl, rfl, _, .int .i64 2, hq [] [], rfl, VLe.refl _, hq_sub .slnil .slnil, rfl, rfl⟩
  · replace h := iteF h hc_6348
    refine VO.gt (v := .int .i64 rv_6346) (t_move rfl rfl) rfl rfl rfl rfl (VO.gt (v := .bool (decide (rv_6346 > 20))) (t_cmp rfl rfl rfl (fun _ _ => rfl) rfl) rfl rfl rfl rfl (VO.t (v := .bool (decide (rv_6346 > 20))) (t_pick (b := false) rfl rfl (fun h => by cases h) (fun _ => rfl)) rfl rfl (VO.nil (thenQ_normal (VW.subK (.c 1 rfl (.c 15 rfl .n)) rfl ?_)))))
    refine VW.cond (b := (decide (rv_6346 > 20))) rfl (fun hc_6349 => ?_) (fun hc_6349 => ?_)
    · replace h := iteT h hc_6349
      refine VW.seq (VW.region (VO.t (v := .int .i64 2) (t_assign rfl (fun _ _ => rfl)) rfl rfl (VO.nil (thenQ_normal (VW.subK (.c 2 rfl .n) rfl (VW.hsub (A := hq [] []) (hq_sub (.cons _ .slnil) .slnil) (VW.ret (thenQ_ret ?_))))))))
      have h := Option.some.inj h
      subst h
      exact ⟨.inr rfl, rfl, _, .int .i64 2, hq [] [], rfl, VLe.refl _, hq_sub .slnil .slnil, rfl, rfl⟩
    · replace h := iteF h hc_6349
      refine VW.skip (thenQ_normal (VW.subK (.c 1 rfl .n) rfl (VW.seq (VW.seq (VW.region (VO.r (v := .agg [.int .i64 a0.Op, .int .i64 a0.Lo, .int .i64 a0.Hi, .sl .fz (a0.Kids.map Node.c)]) (r_load_q (i := 0) rfl sz36 rfl rfl rfl) rfl rfl ?_))))))
      obtain ⟨rv_6350, hx_6351, h⟩ := obind h
      refine VO.w (fun v H' => .bool rv_6350 = v ∧ H' = hq ([[(ob_6344, .cells [.int .i64 a0.Op, .int .i64 a0.Lo, .int .i64 a0.Hi, .sl .fz (a0.Kids.map Node.c)])]]) []) (w_call_q (sa := []) (sg := [[(ob_6344, .cells [.int .i64 a0.Op, .int .i64 a0.Lo, .int .i64 a0.Hi, .sl .fz (a0.Kids.map Node.c)])]]) (tks := []) rfl fn37 rfl ⟨_, _, rfl, rfl, rfl⟩ (ref03_shaped_ok _ _ hx_6351) (by rintro v H' ⟨rfl, rfl⟩; exact ⟨[], rfl, rfl, rfl⟩)) rfl rfl ?_
      rintro _ _ ⟨rfl, rfl⟩
      refine VO.t (v := .bool (!rv_6350)) (t_not rfl rfl rfl) rfl rfl (VO.nil (thenQ_normal (VW.subK (.c 18 rfl .n) rfl (VW.hsub (A := hq [] []) (hq_sub (.cons _ .slnil) .slnil) ?_))))
      refine VW.cond (b := (!rv_6350)) rfl (fun hc_6352 => ?_) (fun hc_6352 => ?_)
      · replace h := iteT h hc_6352
        refine VW.seq (VW.region (VO.t (v := .int .i64 1) (t_assign rfl (fun _ _ => rfl)) rfl rfl (VO.nil (thenQ_normal (VW.subK (.c 2 rfl .n) rfl (VW.ret (thenQ_ret ?_)))))))
        have h := Option.some.inj h
        subst h
        exact ⟨.inr rfl, rfl, _, .int .i64 1, hq [] [], rfl, VLe.refl _, hq_sub .slnil .slnil, rfl, rfl⟩
      · replace h := iteF h hc_6352
        refine VW.skip (thenQ_normal (VW.subN (t' := []) trivial rfl (VW.seq (VW.region (VO.t (v := .int .i64 0) (t_assign rfl (fun _ _ => rfl)) rfl rfl (VO.nil (thenQ_normal (VW.ret ?_))))))))
        have h := Option.some.inj h
        subst h
        exact ⟨.inr rfl, rfl, _, .int .i64 0, hq [] [], rfl, VLe.refl _, hq_sub .slnil .slnil, rfl, rfl⟩

end Go.AV
