/- The walks: each printed theorem says what a function of the program does. -/
import Derived.Test.YtgclbdndnbgnoaaDoorWk0
namespace Go.AV
open Go.Proofs
set_option maxRecDepth 100000
set_option linter.all false

theorem slices_partitionCmpFunc_2int.l2_ok (a4 : Pr → Pr → Option Int) (a1 : Int) (a4_f : Nat) (a4_a a4_c : List VV) (a4_g : Seg) (a4_k : FnOK Tryd.prog a4_f) (a4_h : ∀ (y0 : Pr) (y1 : Pr) (z : Int), a4 y0 y1 = some z → VCalls Tryd.prog a4_f (a4_a ++ [.agg (Pr.c y0), .agg (Pr.c y1)] ++ a4_c) (hq [a4_g] []) (fun v H => .i z = v ∧ H = hq [a4_g] [])) {Q : Exit → Env → HH → Prop} :
    ∀ (bu_0 : List Pr) (i_1 : Int) (j_2 : Int) (o : (List Pr × Int)), PL.slices_partitionCmpFunc_2int.l2 a4 a1 bu_0 i_1 j_2 = some o →
    ∀ (vp0_3 : VV) (bp0_3 : Seg) (hbp0_3 : Buf 2 (bu_0.map Pr.c) vp0_3 bp0_3) (hx0 : ∀ (bu_4 : List Pr) (j_5 : Int) (bp0_6 : Seg), (bu_4, j_5) = o → Buf 2 (bu_4.map Pr.c) vp0_3 bp0_6 → Q (.exit 4) ⟨[(0, vp0_3), (1, .i a1), (13, .i j_5)], []⟩ (hq ([a4_g, bp0_6]) [])), VW Tryd.prog 178 (codeAt [1, 1, 1, 1, 1, 1, 1, 1, 1, 0, 0, 0] (bodyOf Tryd.f77)) (thenQ (VL Tryd.prog 178 (codeAt [1, 1, 1, 1, 1, 1, 1, 1, 1, 0, 0, 0] (bodyOf Tryd.f77)) Q) Q) ⟨[(0, vp0_3), (1, .i a1), (4, .func (.func a4_f) a4_a a4_c), (12, .i i_1), (13, .i j_2)], []⟩ (hq ([a4_g, bp0_3]) []) := by
  refine PL.slices_partitionCmpFunc_2int.l2.partial_correctness a4 a1 (motive := fun bu_0 i_1 j_2 o => ∀ (vp0_3 : VV) (bp0_3 : Seg) (hbp0_3 : Buf 2 (bu_0.map Pr.c) vp0_3 bp0_3) (hx0 : ∀ (bu_4 : List Pr) (j_5 : Int) (bp0_6 : Seg), (bu_4, j_5) = o → Buf 2 (bu_4.map Pr.c) vp0_3 bp0_6 → Q (.exit 4) ⟨[(0, vp0_3), (1, .i a1), (13, .i j_5)], []⟩ (hq ([a4_g, bp0_6]) [])), VW Tryd.prog 178 (codeAt [1, 1, 1, 1, 1, 1, 1, 1, 1, 0, 0, 0] (bodyOf Tryd.f77)) (thenQ (VL Tryd.prog 178 (codeAt [1, 1, 1, 1, 1, 1, 1, 1, 1, 0, 0, 0] (bodyOf Tryd.f77)) Q) Q) ⟨[(0, vp0_3), (1, .i a1), (4, .func (.func a4_f) a4_a a4_c), (12, .i i_1), (13, .i j_2)], []⟩ (hq ([a4_g, bp0_3]) [])) ?_
  intro _ ih bu_0 i_1 j_2 o h vp0_3 bp0_3 hbp0_3 hx0
  refine VW.block (VW.seq (VW.block (VW.k5 0 1 4 12 13 rfl ?_)))
  obtain ⟨o_7, hx_8, h⟩ := obind h
  refine VW.loopL (slices_partitionCmpFunc_2int.l3_ok a4 a1 bu_0 j_2 a4_f a4_a a4_c a4_g a4_k a4_h _ _ hx_8 vp0_3 bp0_3 hbp0_3 ?_)
  · intro i_9 bp0_10 ho_ hbp0_10
    subst ho_
    try dsimp only at h
    refine blockQ_hit (thenQ_normal (VW.seq (VW.block (VW.k5 0 1 4 12 13 rfl ?_))))
    obtain ⟨o_11, hx_12, h⟩ := obind h
    refine VW.loopL (slices_partitionCmpFunc_2int.l4_ok a4 a1 bu_0 i_9 a4_f a4_a a4_c a4_g a4_k a4_h _ _ hx_12 vp0_3 bp0_10 hbp0_10 ?_)
    · intro j_13 bp0_14 ho_ hbp0_14
      subst ho_
      try dsimp only at h
      refine blockQ_hit (thenQ_normal (VW.seq (VW.q (VO.m rfl rfl (VO.m rfl rfl (VO.t (v := .bool (decide (i_9 > j_13))) (t_cmp rfl rfl rfl rfl rfl) rfl rfl (VO.n (VW.k6 0 1 4 12 13 144 rfl ?_))))))))
      refine VW.cond (b := (decide (i_9 > j_13))) rfl (fun hc_15 => ?_) (fun hc_15 => ?_)
      · replace h := iteT h hc_15
        refine VW.k3 0 1 13 rfl (VW.exit (thenQ_exit (blockQ_miss rfl (thenQ_exit ?_))))
        obtain rfl := oi h
        exact hx0 _ _ bp0_14 rfl hbp0_14
      · replace h := iteF h hc_15
        refine VW.skip (thenQ_normal (VW.k5 0 1 4 12 13 rfl (VW.seq (VW.draw 16 mix rfl (VA.t (i := 0) rfl (t_move rfl rfl) (.inl rfl) (by kernel_rfl) (VA.t (i := 1) rfl (t_move rfl rfl) (.inl rfl) (by kernel_rfl) (VA.t (i := 2) rfl (t_move rfl rfl) (.inl rfl) (by kernel_rfl) (VA.t (i := 3) rfl (t_move rfl rfl) (.inl rfl) (by kernel_rfl) (VA.phase (g := 3) [4, 5, 6, 7, 8, 9, 10, 11, 12] 9 ?_)))))))))
        refine VP.take (i := 4) rfl (TOp.r (t_move rfl rfl)) (.inl rfl) (by kernel_rfl) (VP.take (i := 5) rfl (TOp.r (t_move rfl rfl)) (.inl rfl) (by kernel_rfl) ?_)
        obtain ⟨c_16, hc_16, h⟩ := obind h
        obtain ⟨ob_17, cap_17, len_17, sl_17, rfl, rfl, hE_17, hl_17, hc_17, hs_17⟩ := buf_at hbp0_14 hc_16
        refine VP.take (i := 6) (v := .ptr ob_17 (j_13.toNat * 2 + 0)) rfl (TOp.r (t_index_own rfl sl31 rfl rfl (getI_some hc_16).1 (by rw [hl_17]; exact getI_lt hc_16) rfl)) (.inl rfl) (by kernel_rfl) (VP.take (i := 7) (v := .agg (Pr.c c_16)) rfl (r_load_buf (n := 2) (f := 0) (j := 1) rfl sz59 rfl rfl hE_17 (map_get (getI_some hc_16).2 (Pr.c_eq c_16)) (nle rfl) (fun _ => ofCells_agg rfl)) (.inl rfl) (by kernel_rfl) (VP.take (i := 8) rfl (TOp.r (t_move rfl rfl)) (.inl rfl) (by kernel_rfl) (VP.take (i := 9) rfl (TOp.r (t_move rfl rfl)) (.inl rfl) (by kernel_rfl) ?_)))
        obtain ⟨c_18, hc_18, h⟩ := obind h
        refine VP.take (i := 10) (v := .ptr ob_17 (i_9.toNat * 2 + 0)) rfl (TOp.r (t_index_own rfl sl31 rfl rfl (getI_some hc_18).1 (by rw [hl_17]; exact getI_lt hc_18) rfl)) (.inl rfl) (by kernel_rfl) (VP.take (i := 11) (v := .agg (Pr.c c_18)) rfl (r_load_buf (n := 2) (f := 0) (j := 1) rfl sz59 rfl rfl hE_17 (map_get (getI_some hc_18).2 (Pr.c_eq c_18)) (nle rfl) (fun _ => ofCells_agg rfl)) (.inl rfl) (by kernel_rfl) (VP.take (i := 12) (v := .ptr ob_17 (i_9.toNat * 2 + 0)) rfl (TOp.r (t_index_own rfl sl31 rfl rfl (getI_some hc_18).1 (by rw [hl_17]; exact getI_lt hc_18) rfl)) (.inl rfl) (by kernel_rfl) (VP.done (by kernel_rfl) (VA.w (i := 13) (fun v H' => .any = v ∧ H' = hq ([a4_g, [(ob_17, .cells (((bu_0.set i_9.toNat c_16).map Pr.c).flatten ++ sl_17))]]) []) rfl (w_store_buf (n := 2) (f := 0) (j := 1) rfl sz59 rfl rfl rfl hE_17 (map_get (getI_some hc_18).2 (Pr.c_eq c_18)) rfl rfl (nle rfl) rfl (map_set (Pr.c_eq c_16)) ⟨rfl, rfl⟩) (.inl rfl) (by kernel_rfl) rfl ?_))))
        rintro _ _ ⟨rfl, rfl⟩
        have hl_19 : len_17 = (bu_0.set i_9.toNat c_16).length := by simp [hl_17]
        obtain ⟨c_20, hc_20, h⟩ := obind h
        refine VA.t (i := 14) (v := .ptr ob_17 (j_13.toNat * 2 + 0)) rfl (t_index_own rfl sl31 rfl rfl (getI_some hc_20).1 (by rw [hl_19]; exact getI_lt hc_20) rfl) (.inl rfl) (by kernel_rfl) (VA.w (i := 15) (fun v H' => .any = v ∧ H' = hq ([a4_g, [(ob_17, .cells ((((bu_0.set i_9.toNat c_16).set j_13.toNat c_18).map Pr.c).flatten ++ sl_17))]]) []) rfl (w_store_buf (n := 2) (f := 0) (j := 1) rfl sz59 rfl rfl rfl (elemsOK_map Pr.c_ok _) (map_get (getI_some hc_20).2 (Pr.c_eq c_20)) rfl rfl (nle rfl) rfl (map_set (Pr.c_eq c_18)) ⟨rfl, rfl⟩) (.inl rfl) (by kernel_rfl) rfl ?_)
        rintro _ _ ⟨rfl, rfl⟩
        have hl_21 : len_17 = ((bu_0.set i_9.toNat c_16).set j_13.toNat c_18).length := by simp [hl_19]
        refine VA.done (by kernel_rfl) (thenQ_normal (VW.k5 0 1 4 12 13 rfl (VW.q (VO.m rfl rfl (VO.t (v := .i (w64 (i_9 + 1))) (t_add rfl rfl (fun _ _ => rfl) rfl) rfl rfl (VO.a (v := .i (w64 (i_9 + 1))) rfl rfl (VO.n (VW.k5 0 1 4 13 12 rfl (VW.region ?_)))))))))
        refine VO.m rfl rfl (VO.t (v := .i (w64 (j_13 - 1))) (t_sub rfl rfl (fun _ _ => rfl) rfl) rfl rfl (VO.a (v := .i (w64 (j_13 - 1))) rfl rfl (VO.nil (blockQ_normal (thenQ_normal (VL.round ?_))))))
        refine VW.k5 0 1 4 12 13 rfl ?_
        exact ih _ _ _ _ h (.own ob_17 cap_17 len_17) [(ob_17, .cells ((((bu_0.set i_9.toNat c_16).set j_13.toNat c_18).map Pr.c).flatten ++ sl_17))] (Buf.own (n := 2) (l := ((bu_0.set i_9.toNat c_16).set j_13.toNat c_18).map Pr.c) ob_17 cap_17 len_17 sl_17 (elemsOK_map Pr.c_ok _) (by simp [hl_21]) hc_17 hs_17) hx0

theorem slices_partitionCmpFunc_2int_ok (a0 : List Pr) (a1 : Int) (a2 : Int) (a3 : Int) (a4 : Pr → Pr → Option Int) (r : Int × Bool × List Pr) (h : PL.slices_partitionCmpFunc_2int a0 a1 a2 a3 a4 = some r) (v0 : VV) (b0 : Seg) (a4_f : Nat) (a4_a : List VV) (a4_c : List VV) (a4_g : Seg) (hB0 : Buf 2 (a0.map Pr.c) v0 b0) (a4_k : FnOK Tryd.prog a4_f) (a4_h : ∀ (y0 : Pr) (y1 : Pr) (z : Int), a4 y0 y1 = some z → VCalls Tryd.prog a4_f (a4_a ++ [.agg (Pr.c y0), .agg (Pr.c y1)] ++ a4_c) (hq [a4_g] []) (fun v H => .i z = v ∧ H = hq [a4_g] [])) :
    VCalls Tryd.prog 77 [v0, .i a1, .i a2, .i a3, .func (.func a4_f) a4_a a4_c] (hq [b0, a4_g] []) (fun v H => ∃ bk0, Buf 2 (r.2.2.map Pr.c) v0 bk0 ∧ .tup [.i r.1, .bool r.2.1] = v ∧ H = hq [bk0, a4_g] []) := by
  unfold PL.slices_partitionCmpFunc_2int at h
  refine VCalls.of_body 178 [10, 11] Tryd.func77 rfl rfl rfl (nle rfl) (VW.k5 0 1 2 3 4 rfl (VW.q (VO.a (v := .i 0) rfl (fun _ _ => rfl) (VO.a (v := .bool false) rfl (fun _ _ => rfl) (VO.n (VW.k5 0 1 2 3 4 rfl (VW.seq (VW.draw 16 mix rfl (VA.t (i := 0) rfl (t_move rfl rfl) (.inl rfl) (by kernel_rfl) ?_)))))))))
  refine VA.t (i := 1) rfl (t_move rfl rfl) (.inl rfl) (by kernel_rfl) (VA.t (i := 2) rfl (t_move rfl rfl) (.inl rfl) (by kernel_rfl) (VA.t (i := 3) rfl (t_move rfl rfl) (.inl rfl) (by kernel_rfl) (VA.phase (g := 3) [4, 5, 6, 7, 8, 9, 10, 11, 12] 9 (VP.take (i := 4) rfl (TOp.r (t_move rfl rfl)) (.inl rfl) (by kernel_rfl) (VP.take (i := 5) rfl (TOp.r (t_move rfl rfl)) (.inl rfl) (by kernel_rfl) ?_)))))
  obtain ⟨c_0, hc_0, h⟩ := obind h
  obtain ⟨ob_1, cap_1, len_1, sl_1, rfl, rfl, hE_1, hl_1, hc_1, hs_1⟩ := buf_at hB0 hc_0
  refine VP.take (i := 6) (v := .ptr ob_1 (a3.toNat * 2 + 0)) rfl (TOp.r (t_index_own rfl sl31 rfl rfl (getI_some hc_0).1 (by rw [hl_1]; exact getI_lt hc_0) rfl)) (.inl rfl) (by kernel_rfl) (VP.take (i := 7) (v := .agg (Pr.c c_0)) rfl (r_load_buf (n := 2) (f := 0) (j := 0) rfl sz59 rfl rfl hE_1 (map_get (getI_some hc_0).2 (Pr.c_eq c_0)) (nle rfl) (fun _ => ofCells_agg rfl)) (.inl rfl) (by kernel_rfl) (VP.take (i := 8) rfl (TOp.r (t_move rfl rfl)) (.inl rfl) (by kernel_rfl) (VP.take (i := 9) rfl (TOp.r (t_move rfl rfl)) (.inl rfl) (by kernel_rfl) ?_)))
  obtain ⟨c_2, hc_2, h⟩ := obind h
  refine VP.take (i := 10) (v := .ptr ob_1 (a1.toNat * 2 + 0)) rfl (TOp.r (t_index_own rfl sl31 rfl rfl (getI_some hc_2).1 (by rw [hl_1]; exact getI_lt hc_2) rfl)) (.inl rfl) (by kernel_rfl) (VP.take (i := 11) (v := .agg (Pr.c c_2)) rfl (r_load_buf (n := 2) (f := 0) (j := 0) rfl sz59 rfl rfl hE_1 (map_get (getI_some hc_2).2 (Pr.c_eq c_2)) (nle rfl) (fun _ => ofCells_agg rfl)) (.inl rfl) (by kernel_rfl) (VP.take (i := 12) (v := .ptr ob_1 (a1.toNat * 2 + 0)) rfl (TOp.r (t_index_own rfl sl31 rfl rfl (getI_some hc_2).1 (by rw [hl_1]; exact getI_lt hc_2) rfl)) (.inl rfl) (by kernel_rfl) (VP.done (by kernel_rfl) (VA.w (i := 13) (fun v H' => .any = v ∧ H' = hq ([[(ob_1, .cells (((a0.set a1.toNat c_0).map Pr.c).flatten ++ sl_1))], a4_g]) []) rfl (w_store_buf (n := 2) (f := 0) (j := 0) rfl sz59 rfl rfl rfl hE_1 (map_get (getI_some hc_2).2 (Pr.c_eq c_2)) rfl rfl (nle rfl) rfl (map_set (Pr.c_eq c_0)) ⟨rfl, rfl⟩) (.inl rfl) (by kernel_rfl) rfl ?_))))
  rintro _ _ ⟨rfl, rfl⟩
  have hl_3 : len_1 = (a0.set a1.toNat c_0).length := by simp [hl_1]
  obtain ⟨c_4, hc_4, h⟩ := obind h
  refine VA.t (i := 14) (v := .ptr ob_1 (a3.toNat * 2 + 0)) rfl (t_index_own rfl sl31 rfl rfl (getI_some hc_4).1 (by rw [hl_3]; exact getI_lt hc_4) rfl) (.inl rfl) (by kernel_rfl) (VA.w (i := 15) (fun v H' => .any = v ∧ H' = hq ([[(ob_1, .cells ((((a0.set a1.toNat c_0).set a3.toNat c_2).map Pr.c).flatten ++ sl_1))], a4_g]) []) rfl (w_store_buf (n := 2) (f := 0) (j := 0) rfl sz59 rfl rfl rfl (elemsOK_map Pr.c_ok _) (map_get (getI_some hc_4).2 (Pr.c_eq c_4)) rfl rfl (nle rfl) rfl (map_set (Pr.c_eq c_2)) ⟨rfl, rfl⟩) (.inl rfl) (by kernel_rfl) rfl ?_)
  rintro _ _ ⟨rfl, rfl⟩
  have hl_5 : len_1 = ((a0.set a1.toNat c_0).set a3.toNat c_2).length := by simp [hl_3]
  refine VA.done (by kernel_rfl) (thenQ_normal (VW.k4 0 1 2 4 rfl (VW.q (VO.m rfl rfl (VO.t (v := .i (w64 (a1 + 1))) (t_add rfl rfl (fun _ _ => rfl) rfl) rfl rfl (VO.m rfl rfl (VO.t (v := .i (w64 (a2 - 1))) (t_sub rfl rfl (fun _ _ => rfl) rfl) rfl rfl (VO.a (v := .i (w64 (a1 + 1))) rfl rfl (VO.a (v := .i (w64 (a2 - 1))) rfl rfl ?_)))))))))
  refine VO.n (VW.k5 0 1 4 12 13 rfl (VW.seq (VW.block (VW.k5 0 1 4 12 13 rfl ?_))))
  obtain ⟨o_6, hx_7, h⟩ := obind h
  refine VW.loopL (slices_partitionCmpFunc_2int.l0_ok a4 a0 a1 a2 a3 c_0 c_2 a4_f a4_a a4_c a4_g a4_k a4_h _ _ hx_7 (.own ob_1 cap_1 len_1) [(ob_1, .cells ((((a0.set a1.toNat c_0).set a3.toNat c_2).map Pr.c).flatten ++ sl_1))] (Buf.own (n := 2) (l := ((a0.set a1.toNat c_0).set a3.toNat c_2).map Pr.c) ob_1 cap_1 len_1 sl_1 (elemsOK_map Pr.c_ok _) (by simp [hl_5]) hc_1 hs_1) ?_)
  · intro i_8 bp0_9 ho_ hbp0_9
    subst ho_
    try dsimp only at h
    refine blockQ_hit (thenQ_normal (VW.seq (VW.block (VW.k5 0 1 4 12 13 rfl ?_))))
    obtain ⟨o_10, hx_11, h⟩ := obind h
    refine VW.loopL (slices_partitionCmpFunc_2int.l1_ok a4 a0 a1 a3 c_0 c_2 i_8 a4_f a4_a a4_c a4_g a4_k a4_h _ _ hx_11 (.own ob_1 cap_1 len_1) bp0_9 hbp0_9 ?_)
    · intro j_12 bp0_13 ho_ hbp0_13
      subst ho_
      try dsimp only at h
      refine blockQ_hit (thenQ_normal (VW.seq (VW.q (VO.m rfl rfl (VO.m rfl rfl (VO.t (v := .bool (decide (i_8 > j_12))) (t_cmp rfl rfl rfl rfl rfl) rfl rfl (VO.n (VW.k6 0 1 4 12 13 71 rfl ?_))))))))
      refine VW.cond (b := (decide (i_8 > j_12))) rfl (fun hc_14 => ?_) (fun hc_14 => ?_)
      · replace h := iteT h hc_14
        refine VW.seq (VW.draw 16 mix rfl (VA.t (i := 0) rfl (t_move rfl rfl) (.inl rfl) (by kernel_rfl) (VA.t (i := 1) rfl (t_move rfl rfl) (.inl rfl) (by kernel_rfl) (VA.t (i := 2) rfl (t_move rfl rfl) (.inl rfl) (by kernel_rfl) (VA.t (i := 3) rfl (t_move rfl rfl) (.inl rfl) (by kernel_rfl) (VA.phase (g := 3) [4, 5, 6, 7, 8, 9, 10, 11, 12] 9 (VP.take (i := 4) rfl (TOp.r (t_move rfl rfl)) (.inl rfl) (by kernel_rfl) (VP.take (i := 5) rfl (TOp.r (t_move rfl rfl)) (.inl rfl) (by kernel_rfl) ?_))))))))
        obtain ⟨c_15, hc_15, h⟩ := obind h
        obtain ⟨sl_16, rfl, hE_16, hl_16, hc_16, hs_16⟩ := buf_own hbp0_13
        refine VP.take (i := 6) (v := .ptr ob_1 (a1.toNat * 2 + 0)) rfl (TOp.r (t_index_own rfl sl31 rfl rfl (getI_some hc_15).1 (by rw [hl_16]; exact getI_lt hc_15) rfl)) (.inl rfl) (by kernel_rfl) (VP.take (i := 7) (v := .agg (Pr.c c_15)) rfl (r_load_buf (n := 2) (f := 0) (j := 1) rfl sz59 rfl rfl hE_16 (map_get (getI_some hc_15).2 (Pr.c_eq c_15)) (nle rfl) (fun _ => ofCells_agg rfl)) (.inl rfl) (by kernel_rfl) (VP.take (i := 8) rfl (TOp.r (t_move rfl rfl)) (.inl rfl) (by kernel_rfl) (VP.take (i := 9) rfl (TOp.r (t_move rfl rfl)) (.inl rfl) (by kernel_rfl) ?_)))
        obtain ⟨c_17, hc_17, h⟩ := obind h
        refine VP.take (i := 10) (v := .ptr ob_1 (j_12.toNat * 2 + 0)) rfl (TOp.r (t_index_own rfl sl31 rfl rfl (getI_some hc_17).1 (by rw [hl_16]; exact getI_lt hc_17) rfl)) (.inl rfl) (by kernel_rfl) (VP.take (i := 11) (v := .agg (Pr.c c_17)) rfl (r_load_buf (n := 2) (f := 0) (j := 1) rfl sz59 rfl rfl hE_16 (map_get (getI_some hc_17).2 (Pr.c_eq c_17)) (nle rfl) (fun _ => ofCells_agg rfl)) (.inl rfl) (by kernel_rfl) (VP.take (i := 12) (v := .ptr ob_1 (j_12.toNat * 2 + 0)) rfl (TOp.r (t_index_own rfl sl31 rfl rfl (getI_some hc_17).1 (by rw [hl_16]; exact getI_lt hc_17) rfl)) (.inl rfl) (by kernel_rfl) (VP.done (by kernel_rfl) (VA.w (i := 13) (fun v H' => .any = v ∧ H' = hq ([a4_g, [(ob_1, .cells (((((a0.set a1.toNat c_0).set a3.toNat c_2).set j_12.toNat c_15).map Pr.c).flatten ++ sl_16))]]) []) rfl (w_store_buf (n := 2) (f := 0) (j := 1) rfl sz59 rfl rfl rfl hE_16 (map_get (getI_some hc_17).2 (Pr.c_eq c_17)) rfl rfl (nle rfl) rfl (map_set (Pr.c_eq c_15)) ⟨rfl, rfl⟩) (.inl rfl) (by kernel_rfl) rfl ?_))))
        rintro _ _ ⟨rfl, rfl⟩
        have hl_18 : len_1 = (((a0.set a1.toNat c_0).set a3.toNat c_2).set j_12.toNat c_15).length := by simp [hl_16]
        obtain ⟨c_19, hc_19, h⟩ := obind h
        refine VA.t (i := 14) (v := .ptr ob_1 (a1.toNat * 2 + 0)) rfl (t_index_own rfl sl31 rfl rfl (getI_some hc_19).1 (by rw [hl_18]; exact getI_lt hc_19) rfl) (.inl rfl) (by kernel_rfl) (VA.w (i := 15) (fun v H' => .any = v ∧ H' = hq ([a4_g, [(ob_1, .cells ((((((a0.set a1.toNat c_0).set a3.toNat c_2).set j_12.toNat c_15).set a1.toNat c_17).map Pr.c).flatten ++ sl_16))]]) []) rfl (w_store_buf (n := 2) (f := 0) (j := 1) rfl sz59 rfl rfl rfl (elemsOK_map Pr.c_ok _) (map_get (getI_some hc_19).2 (Pr.c_eq c_19)) rfl rfl (nle rfl) rfl (map_set (Pr.c_eq c_17)) ⟨rfl, rfl⟩) (.inl rfl) (by kernel_rfl) rfl ?_)
        rintro _ _ ⟨rfl, rfl⟩
        have hl_20 : len_1 = ((((a0.set a1.toNat c_0).set a3.toNat c_2).set j_12.toNat c_15).set a1.toNat c_17).length := by simp [hl_18]
        refine VA.done (by kernel_rfl) (thenQ_normal (VW.k1 13 rfl (VW.q (VO.m rfl rfl (VO.a (v := .i j_12) rfl rfl (VO.a (v := .bool true) rfl (fun _ _ => rfl) (VO.n (VW.k2 10 11 rfl (VW.frontS 0 rfl ?_)))))))))
        refine VW.frontS 1 rfl (VW.ret (thenQ_ret ?_))
        obtain rfl := oi h
        exact ⟨.inr rfl, rfl, _, .tup [.i j_12, .bool true], hq [[(ob_1, .cells ((((((a0.set a1.toNat c_0).set a3.toNat c_2).set j_12.toNat c_15).set a1.toNat c_17).map Pr.c).flatten ++ sl_16))], a4_g] [], ⟨_, _, rfl, rfl, rfl⟩, VLe.tup ⟨VLe.refl _, VLe.refl _, trivial⟩, hq_sub (.cons_cons _ (.cons_cons _ .slnil)) .slnil, [(ob_1, .cells ((((((a0.set a1.toNat c_0).set a3.toNat c_2).set j_12.toNat c_15).set a1.toNat c_17).map Pr.c).flatten ++ sl_16))], (Buf.own (n := 2) (l := ((((a0.set a1.toNat c_0).set a3.toNat c_2).set j_12.toNat c_15).set a1.toNat c_17).map Pr.c) ob_1 cap_1 len_1 sl_16 (elemsOK_map Pr.c_ok _) (by simp [hl_20]) hc_16 hs_16), rfl, rfl⟩
      · replace h := iteF h hc_14
        refine VW.skip (thenQ_normal (VW.k5 0 1 4 12 13 rfl (VW.seq (VW.draw 16 mix rfl (VA.t (i := 0) rfl (t_move rfl rfl) (.inl rfl) (by kernel_rfl) (VA.t (i := 1) rfl (t_move rfl rfl) (.inl rfl) (by kernel_rfl) (VA.t (i := 2) rfl (t_move rfl rfl) (.inl rfl) (by kernel_rfl) (VA.t (i := 3) rfl (t_move rfl rfl) (.inl rfl) (by kernel_rfl) (VA.phase (g := 3) [4, 5, 6, 7, 8, 9, 10, 11, 12] 9 ?_)))))))))
        refine VP.take (i := 4) rfl (TOp.r (t_move rfl rfl)) (.inl rfl) (by kernel_rfl) (VP.take (i := 5) rfl (TOp.r (t_move rfl rfl)) (.inl rfl) (by kernel_rfl) ?_)
        obtain ⟨c_21, hc_21, h⟩ := obind h
        obtain ⟨sl_22, rfl, hE_22, hl_22, hc_22, hs_22⟩ := buf_own hbp0_13
        refine VP.take (i := 6) (v := .ptr ob_1 (j_12.toNat * 2 + 0)) rfl (TOp.r (t_index_own rfl sl31 rfl rfl (getI_some hc_21).1 (by rw [hl_22]; exact getI_lt hc_21) rfl)) (.inl rfl) (by kernel_rfl) (VP.take (i := 7) (v := .agg (Pr.c c_21)) rfl (r_load_buf (n := 2) (f := 0) (j := 1) rfl sz59 rfl rfl hE_22 (map_get (getI_some hc_21).2 (Pr.c_eq c_21)) (nle rfl) (fun _ => ofCells_agg rfl)) (.inl rfl) (by kernel_rfl) (VP.take (i := 8) rfl (TOp.r (t_move rfl rfl)) (.inl rfl) (by kernel_rfl) (VP.take (i := 9) rfl (TOp.r (t_move rfl rfl)) (.inl rfl) (by kernel_rfl) ?_)))
        obtain ⟨c_23, hc_23, h⟩ := obind h
        refine VP.take (i := 10) (v := .ptr ob_1 (i_8.toNat * 2 + 0)) rfl (TOp.r (t_index_own rfl sl31 rfl rfl (getI_some hc_23).1 (by rw [hl_22]; exact getI_lt hc_23) rfl)) (.inl rfl) (by kernel_rfl) (VP.take (i := 11) (v := .agg (Pr.c c_23)) rfl (r_load_buf (n := 2) (f := 0) (j := 1) rfl sz59 rfl rfl hE_22 (map_get (getI_some hc_23).2 (Pr.c_eq c_23)) (nle rfl) (fun _ => ofCells_agg rfl)) (.inl rfl) (by kernel_rfl) (VP.take (i := 12) (v := .ptr ob_1 (i_8.toNat * 2 + 0)) rfl (TOp.r (t_index_own rfl sl31 rfl rfl (getI_some hc_23).1 (by rw [hl_22]; exact getI_lt hc_23) rfl)) (.inl rfl) (by kernel_rfl) (VP.done (by kernel_rfl) (VA.w (i := 13) (fun v H' => .any = v ∧ H' = hq ([a4_g, [(ob_1, .cells (((((a0.set a1.toNat c_0).set a3.toNat c_2).set i_8.toNat c_21).map Pr.c).flatten ++ sl_22))]]) []) rfl (w_store_buf (n := 2) (f := 0) (j := 1) rfl sz59 rfl rfl rfl hE_22 (map_get (getI_some hc_23).2 (Pr.c_eq c_23)) rfl rfl (nle rfl) rfl (map_set (Pr.c_eq c_21)) ⟨rfl, rfl⟩) (.inl rfl) (by kernel_rfl) rfl ?_))))
        rintro _ _ ⟨rfl, rfl⟩
        have hl_24 : len_1 = (((a0.set a1.toNat c_0).set a3.toNat c_2).set i_8.toNat c_21).length := by simp [hl_22]
        obtain ⟨c_25, hc_25, h⟩ := obind h
        refine VA.t (i := 14) (v := .ptr ob_1 (j_12.toNat * 2 + 0)) rfl (t_index_own rfl sl31 rfl rfl (getI_some hc_25).1 (by rw [hl_24]; exact getI_lt hc_25) rfl) (.inl rfl) (by kernel_rfl) (VA.w (i := 15) (fun v H' => .any = v ∧ H' = hq ([a4_g, [(ob_1, .cells ((((((a0.set a1.toNat c_0).set a3.toNat c_2).set i_8.toNat c_21).set j_12.toNat c_23).map Pr.c).flatten ++ sl_22))]]) []) rfl (w_store_buf (n := 2) (f := 0) (j := 1) rfl sz59 rfl rfl rfl (elemsOK_map Pr.c_ok _) (map_get (getI_some hc_25).2 (Pr.c_eq c_25)) rfl rfl (nle rfl) rfl (map_set (Pr.c_eq c_23)) ⟨rfl, rfl⟩) (.inl rfl) (by kernel_rfl) rfl ?_)
        rintro _ _ ⟨rfl, rfl⟩
        have hl_26 : len_1 = ((((a0.set a1.toNat c_0).set a3.toNat c_2).set i_8.toNat c_21).set j_12.toNat c_23).length := by simp [hl_24]
        refine VA.done (by kernel_rfl) (thenQ_normal (VW.k5 0 1 4 12 13 rfl (VW.q (VO.m rfl rfl (VO.t (v := .i (w64 (i_8 + 1))) (t_add rfl rfl (fun _ _ => rfl) rfl) rfl rfl (VO.a (v := .i (w64 (i_8 + 1))) rfl rfl (VO.n (VW.k5 0 1 4 13 12 rfl (VW.q ?_)))))))))
        refine VO.m rfl rfl (VO.t (v := .i (w64 (j_12 - 1))) (t_sub rfl rfl (fun _ _ => rfl) rfl) rfl rfl (VO.a (v := .i (w64 (j_12 - 1))) rfl rfl (VO.n (VW.k5 0 1 4 12 13 rfl (VW.seq (VW.block (VW.k5 0 1 4 12 13 rfl ?_)))))))
        obtain ⟨o_27, hx_28, h⟩ := obind h
        refine VW.loopL (slices_partitionCmpFunc_2int.l2_ok a4 a1 a4_f a4_a a4_c a4_g a4_k a4_h _ _ _ _ hx_28 (.own ob_1 cap_1 len_1) [(ob_1, .cells ((((((a0.set a1.toNat c_0).set a3.toNat c_2).set i_8.toNat c_21).set j_12.toNat c_23).map Pr.c).flatten ++ sl_22))] (Buf.own (n := 2) (l := ((((a0.set a1.toNat c_0).set a3.toNat c_2).set i_8.toNat c_21).set j_12.toNat c_23).map Pr.c) ob_1 cap_1 len_1 sl_22 (elemsOK_map Pr.c_ok _) (by simp [hl_26]) hc_22 hs_22) ?_)
        · intro bu_29 j_30 bp0_31 ho_ hbp0_31
          subst ho_
          try dsimp only at h
          refine blockQ_hit (thenQ_normal (VW.seq (VW.draw 16 mix rfl (VA.t (i := 0) rfl (t_move rfl rfl) (.inl rfl) (by kernel_rfl) (VA.t (i := 1) rfl (t_move rfl rfl) (.inl rfl) (by kernel_rfl) (VA.t (i := 2) rfl (t_move rfl rfl) (.inl rfl) (by kernel_rfl) (VA.t (i := 3) rfl (t_move rfl rfl) (.inl rfl) (by kernel_rfl) (VA.phase (g := 3) [4, 5, 6, 7, 8, 9, 10, 11, 12] 9 (VP.take (i := 4) rfl (TOp.r (t_move rfl rfl)) (.inl rfl) (by kernel_rfl) ?_)))))))))
          refine VP.take (i := 5) rfl (TOp.r (t_move rfl rfl)) (.inl rfl) (by kernel_rfl) ?_
          obtain ⟨c_32, hc_32, h⟩ := obind h
          obtain ⟨sl_33, rfl, hE_33, hl_33, hc_33, hs_33⟩ := buf_own hbp0_31
          refine VP.take (i := 6) (v := .ptr ob_1 (a1.toNat * 2 + 0)) rfl (TOp.r (t_index_own rfl sl31 rfl rfl (getI_some hc_32).1 (by rw [hl_33]; exact getI_lt hc_32) rfl)) (.inl rfl) (by kernel_rfl) (VP.take (i := 7) (v := .agg (Pr.c c_32)) rfl (r_load_buf (n := 2) (f := 0) (j := 1) rfl sz59 rfl rfl hE_33 (map_get (getI_some hc_32).2 (Pr.c_eq c_32)) (nle rfl) (fun _ => ofCells_agg rfl)) (.inl rfl) (by kernel_rfl) (VP.take (i := 8) rfl (TOp.r (t_move rfl rfl)) (.inl rfl) (by kernel_rfl) (VP.take (i := 9) rfl (TOp.r (t_move rfl rfl)) (.inl rfl) (by kernel_rfl) ?_)))
          obtain ⟨c_34, hc_34, h⟩ := obind h
          refine VP.take (i := 10) (v := .ptr ob_1 (j_30.toNat * 2 + 0)) rfl (TOp.r (t_index_own rfl sl31 rfl rfl (getI_some hc_34).1 (by rw [hl_33]; exact getI_lt hc_34) rfl)) (.inl rfl) (by kernel_rfl) (VP.take (i := 11) (v := .agg (Pr.c c_34)) rfl (r_load_buf (n := 2) (f := 0) (j := 1) rfl sz59 rfl rfl hE_33 (map_get (getI_some hc_34).2 (Pr.c_eq c_34)) (nle rfl) (fun _ => ofCells_agg rfl)) (.inl rfl) (by kernel_rfl) (VP.take (i := 12) (v := .ptr ob_1 (j_30.toNat * 2 + 0)) rfl (TOp.r (t_index_own rfl sl31 rfl rfl (getI_some hc_34).1 (by rw [hl_33]; exact getI_lt hc_34) rfl)) (.inl rfl) (by kernel_rfl) (VP.done (by kernel_rfl) (VA.w (i := 13) (fun v H' => .any = v ∧ H' = hq ([a4_g, [(ob_1, .cells (((bu_29.set j_30.toNat c_32).map Pr.c).flatten ++ sl_33))]]) []) rfl (w_store_buf (n := 2) (f := 0) (j := 1) rfl sz59 rfl rfl rfl hE_33 (map_get (getI_some hc_34).2 (Pr.c_eq c_34)) rfl rfl (nle rfl) rfl (map_set (Pr.c_eq c_32)) ⟨rfl, rfl⟩) (.inl rfl) (by kernel_rfl) rfl ?_))))
          rintro _ _ ⟨rfl, rfl⟩
          have hl_35 : len_1 = (bu_29.set j_30.toNat c_32).length := by simp [hl_33]
          obtain ⟨c_36, hc_36, h⟩ := obind h
          refine VA.t (i := 14) (v := .ptr ob_1 (a1.toNat * 2 + 0)) rfl (t_index_own rfl sl31 rfl rfl (getI_some hc_36).1 (by rw [hl_35]; exact getI_lt hc_36) rfl) (.inl rfl) (by kernel_rfl) (VA.w (i := 15) (fun v H' => .any = v ∧ H' = hq ([a4_g, [(ob_1, .cells ((((bu_29.set j_30.toNat c_32).set a1.toNat c_34).map Pr.c).flatten ++ sl_33))]]) []) rfl (w_store_buf (n := 2) (f := 0) (j := 1) rfl sz59 rfl rfl rfl (elemsOK_map Pr.c_ok _) (map_get (getI_some hc_36).2 (Pr.c_eq c_36)) rfl rfl (nle rfl) rfl (map_set (Pr.c_eq c_34)) ⟨rfl, rfl⟩) (.inl rfl) (by kernel_rfl) rfl ?_)
          rintro _ _ ⟨rfl, rfl⟩
          have hl_37 : len_1 = ((bu_29.set j_30.toNat c_32).set a1.toNat c_34).length := by simp [hl_35]
          refine VA.done (by kernel_rfl) (thenQ_normal (VW.k1 13 rfl (VW.q (VO.m rfl rfl (VO.a (v := .i j_30) rfl rfl (VO.a (v := .bool false) rfl (fun _ _ => rfl) (VO.n (VW.k2 10 11 rfl (VW.frontS 0 rfl ?_)))))))))
          refine VW.frontS 1 rfl (VW.ret ?_)
          obtain rfl := oi h
          exact ⟨.inr rfl, rfl, _, .tup [.i j_30, .bool false], hq [[(ob_1, .cells ((((bu_29.set j_30.toNat c_32).set a1.toNat c_34).map Pr.c).flatten ++ sl_33))], a4_g] [], ⟨_, _, rfl, rfl, rfl⟩, VLe.tup ⟨VLe.refl _, VLe.refl _, trivial⟩, hq_sub (.cons_cons _ (.cons_cons _ .slnil)) .slnil, [(ob_1, .cells ((((bu_29.set j_30.toNat c_32).set a1.toNat c_34).map Pr.c).flatten ++ sl_33))], (Buf.own (n := 2) (l := ((bu_29.set j_30.toNat c_32).set a1.toNat c_34).map Pr.c) ob_1 cap_1 len_1 sl_33 (elemsOK_map Pr.c_ok _) (by simp [hl_37]) hc_33 hs_33), rfl, rfl⟩

theorem slices_pdqsortCmpFunc_2int_ok (a0 : List Pr) (a1 : Int) (a2 : Int) (a3 : Int) (a4 : Pr → Pr → Option Int) (r : List Pr) (h : PL.slices_pdqsortCmpFunc_2int a0 a1 a2 a3 a4 = some r) (v0 : VV) (b0 : Seg) (a4_f : Nat) (a4_a : List VV) (a4_c : List VV) (a4_g : Seg) (hB0 : Buf 2 (a0.map Pr.c) v0 b0) (a4_k : FnOK Tryd.prog a4_f) (a4_h : ∀ (y0 : Pr) (y1 : Pr) (z : Int), a4 y0 y1 = some z → VCalls Tryd.prog a4_f (a4_a ++ [.agg (Pr.c y0), .agg (Pr.c y1)] ++ a4_c) (hq [a4_g] []) (fun v H => .i z = v ∧ H = hq [a4_g] [])) :
    VCalls Tryd.prog 64 [v0, .i a1, .i a2, .i a3, .func (.func a4_f) a4_a a4_c] (hq [b0, a4_g] []) (fun v H => ∃ bk0, Buf 2 (r.map Pr.c) v0 bk0 ∧ .tup [] = v ∧ H = hq [bk0, a4_g] []) := by
  revert h v0 b0 a4_f a4_a a4_c a4_g hB0 a4_k a4_h
  refine (PL.slices_pdqsortCmpFunc_2int.l0.mutual_partial_correctness a4 (motive_1 := fun bu_0 a_1 b_2 limit_3 wasBalanced_4 wasPartitioned_5 o => ∀ (a4_f : Nat) (a4_a a4_c : List VV) (a4_g : Seg) (a4_k : FnOK Tryd.prog a4_f) (a4_h : ∀ (y0 : Pr) (y1 : Pr) (z : Int), a4 y0 y1 = some z → VCalls Tryd.prog a4_f (a4_a ++ [.agg (Pr.c y0), .agg (Pr.c y1)] ++ a4_c) (hq [a4_g] []) (fun v H => .i z = v ∧ H = hq [a4_g] [])) (Q : Exit → Env → HH → Prop) (vp0_6 : VV) (bp0_6 : Seg) (hbp0_6 : Buf 2 (bu_0.map Pr.c) vp0_6 bp0_6) (hx0 : ∀ (bu_7 : List Pr) (bp0_8 : Seg), bu_7 = o → Buf 2 (bu_7.map Pr.c) vp0_6 bp0_8 → Q .ret ⟨[], []⟩ (hq ([bp0_8, a4_g]) [])), VW Tryd.prog 148 (codeAt [1, 1, 0, 0] (bodyOf Tryd.f64)) (thenQ (VL Tryd.prog 148 (codeAt [1, 1, 0, 0] (bodyOf Tryd.f64)) Q) Q) ⟨[(0, vp0_6), (1, .i a_1), (2, .i b_2), (3, .i limit_3), (4, .func (.func a4_f) a4_a a4_c), (10, .bool wasBalanced_4), (11, .bool wasPartitioned_5)], []⟩ (hq ([bp0_6, a4_g]) [])) (motive_2 := fun a0 a1 a2 a3 r => ∀ (v0 : VV) (b0 : Seg) (a4_f : Nat) (a4_a : List VV) (a4_c : List VV) (a4_g : Seg) (hB0 : Buf 2 (a0.map Pr.c) v0 b0) (a4_k : FnOK Tryd.prog a4_f) (a4_h : ∀ (y0 : Pr) (y1 : Pr) (z : Int), a4 y0 y1 = some z → VCalls Tryd.prog a4_f (a4_a ++ [.agg (Pr.c y0), .agg (Pr.c y1)] ++ a4_c) (hq [a4_g] []) (fun v H => .i z = v ∧ H = hq [a4_g] [])), VCalls Tryd.prog 64 [v0, .i a1, .i a2, .i a3, .func (.func a4_f) a4_a a4_c] (hq [b0, a4_g] []) (fun v H => ∃ bk0, Buf 2 (r.map Pr.c) v0 bk0 ∧ .tup [] = v ∧ H = hq [bk0, a4_g] [])) ?_ ?_).2 a0 a1 a2 a3 r
  · intro _ _ ih_slices_pdqsortCmpFunc_2int_l0 ih_slices_pdqsortCmpFunc_2int bu_0 a_1 b_2 limit_3 wasBalanced_4 wasPartitioned_5 o h a4_f a4_a a4_c a4_g a4_k a4_h Q vp0_6 bp0_6 hbp0_6 hx0
    refine VW.block (VW.q (VO.m rfl rfl (VO.m rfl rfl (VO.t (v := .i (w64 (b_2 - a_1))) (t_sub rfl rfl rfl rfl) rfl rfl (VO.a (v := .i (w64 (b_2 - a_1))) rfl rfl (VO.n (VW.k8 0 1 2 3 4 10 11 12 rfl (VW.seq (VW.q ?_)))))))))
    refine VO.m rfl rfl (VO.t (v := .bool (decide ((w64 (b_2 - a_1)) ≤ 12))) (t_cmp rfl rfl rfl (fun _ _ => rfl) rfl) rfl rfl (VO.n (VW.subK (.c 0 rfl (.c 1 rfl (.c 2 rfl (.c 3 rfl (.c 4 rfl (.c 10 rfl (.c 11 rfl (.c 12 rfl (.c 25 rfl .n))))))))) rfl ?_)))
    refine VW.cond (b := (decide ((w64 (b_2 - a_1)) ≤ 12))) rfl (fun hc_9 => ?_) (fun hc_9 => ?_)
    · replace h := iteT h hc_9
      refine VW.q (VO.m rfl rfl (VO.m rfl rfl (VO.m rfl rfl (VO.m rfl rfl ?_))))
      obtain ⟨k_10, hx_11, h⟩ := obind h
      refine VO.w (fun v H' => ∃ bk0_12, Buf 2 (k_10.map Pr.c) vp0_6 bk0_12 ∧ .tup [] = v ∧ H' = hq ([bk0_12, a4_g]) []) (w_call_q (sa := [bp0_6, a4_g]) (sg := []) (tks := []) rfl fn70 rfl ⟨_, _, rfl, rfl, _, _, rfl, rfl, _, _, rfl, rfl, _, _, rfl, rfl, rfl⟩ (slices_insertionSortCmpFunc_2int_ok _ _ _ _ _ hx_11 vp0_6 bp0_6 a4_f a4_a a4_c a4_g hbp0_6 a4_k a4_h) (by rintro v H' ⟨bk0_12, h_13, rfl, rfl⟩; exact ⟨[bk0_12, a4_g], rfl, bk0_12, h_13, rfl, rfl⟩)) rfl rfl ?_
      rintro _ _ ⟨bk0_12, hB_14, rfl, rfl⟩
      refine VO.n (VW.subN (t' := []) trivial rfl (VW.subN (t' := []) trivial rfl (VW.ret (thenQ_ret (blockQ_ret (thenQ_ret ?_))))))
      obtain rfl := oi h
      exact hx0 _ bk0_12 rfl hB_14
    · replace h := iteF h hc_9
      refine VW.skip (thenQ_normal (VW.k8 0 1 2 3 4 10 11 12 rfl (VW.seq (VW.q (VO.m rfl rfl (VO.t (v := .bool (limit_3 == 0)) (t_cmp rfl rfl rfl (fun _ _ => rfl) rfl) rfl rfl (VO.n (VW.subK (.c 0 rfl (.c 1 rfl (.c 2 rfl (.c 3 rfl (.c 4 rfl (.c 10 rfl (.c 11 rfl (.c 12 rfl (.c 32 rfl .n))))))))) rfl ?_))))))))
      refine VW.cond (b := (limit_3 == 0)) rfl (fun hc_15 => ?_) (fun hc_15 => ?_)
      · replace h := iteT h hc_15
        refine VW.q (VO.m rfl rfl (VO.m rfl rfl (VO.m rfl rfl (VO.m rfl rfl ?_))))
        obtain ⟨k_16, hx_17, h⟩ := obind h
        refine VO.w (fun v H' => ∃ bk0_18, Buf 2 (k_16.map Pr.c) vp0_6 bk0_18 ∧ .tup [] = v ∧ H' = hq ([bk0_18, a4_g]) []) (w_call_q (sa := [bp0_6, a4_g]) (sg := []) (tks := []) rfl fn71 rfl ⟨_, _, rfl, rfl, _, _, rfl, rfl, _, _, rfl, rfl, _, _, rfl, rfl, rfl⟩ (slices_heapSortCmpFunc_2int_ok _ _ _ _ _ hx_17 vp0_6 bp0_6 a4_f a4_a a4_c a4_g hbp0_6 a4_k a4_h) (by rintro v H' ⟨bk0_18, h_13, rfl, rfl⟩; exact ⟨[bk0_18, a4_g], rfl, bk0_18, h_13, rfl, rfl⟩)) rfl rfl ?_
        rintro _ _ ⟨bk0_18, hB_19, rfl, rfl⟩
        refine VO.n (VW.subN (t' := []) trivial rfl (VW.subN (t' := []) trivial rfl (VW.ret (thenQ_ret (blockQ_ret (thenQ_ret ?_))))))
        obtain rfl := oi h
        exact hx0 _ bk0_18 rfl hB_19
      · replace h := iteF h hc_15
        refine VW.skip (thenQ_normal (VW.k8 0 1 2 3 4 10 11 12 rfl (VW.seq (VW.q (VO.m rfl rfl (VO.t (v := .bool (!wasBalanced_4)) (t_not rfl rfl rfl) rfl rfl (VO.n (VW.subK (.c 0 rfl (.c 1 rfl (.c 2 rfl (.c 3 rfl (.c 4 rfl (.c 10 rfl (.c 11 rfl (.c 12 rfl (.c 39 rfl .n))))))))) rfl ?_))))))))
        obtain ⟨o_20, h, hx_21⟩ := obind h
        refine VW.joinQ (E := List Pr × Int × Seg) (I := fun ⟨bu_22, limit_23, bp0_24⟩ => (bu_22, limit_23) = o_20 ∧ Buf 2 (bu_22.map Pr.c) vp0_6 bp0_24 ∧ True) (env' := fun ⟨bu_22, limit_23, bp0_24⟩ => ⟨[(0, vp0_6), (1, .i a_1), (2, .i b_2), (4, .func (.func a4_f) a4_a a4_c), (10, .bool wasBalanced_4), (11, .bool wasPartitioned_5), (12, .i (w64 (b_2 - a_1))), (3, .i limit_23)], []⟩) (H' := fun ⟨bu_22, limit_23, bp0_24⟩ => hq ([bp0_24, a4_g]) []) ?_ (fun J_25 => ?_)
        · rintro ⟨bu_22, limit_23, bp0_24⟩ ⟨ho_, hbp0_24, _⟩
          subst ho_
          replace h := hx_21
          clear hx_21
          try dsimp only at h
          show VW _ _ _ _ ⟨[(0, vp0_6), (1, .i a_1), (2, .i b_2), (4, .func (.func a4_f) a4_a a4_c), (10, .bool wasBalanced_4), (11, .bool wasPartitioned_5), (12, .i (w64 (b_2 - a_1))), (3, .i limit_23)], []⟩ (hq ([bp0_24, a4_g]) [])
          refine VW.q (VO.m rfl rfl (VO.m rfl rfl (VO.m rfl rfl (VO.m rfl rfl ?_))))
          obtain ⟨⟨rv_26, rv_27, k_28⟩, hx_29, h⟩ := obind h
          try dsimp only at h
          refine VO.w (fun v H' => ∃ bk0_30, Buf 2 (k_28.map Pr.c) vp0_6 bk0_30 ∧ .tup [.i rv_26, .i rv_27] = v ∧ H' = hq ([bk0_30, a4_g]) []) (w_call_q (sa := [bp0_24, a4_g]) (sg := []) (tks := []) rfl fn73 rfl ⟨_, _, rfl, rfl, _, _, rfl, rfl, _, _, rfl, rfl, _, _, rfl, rfl, rfl⟩ (slices_choosePivotCmpFunc_2int_ok _ _ _ _ _ hx_29 vp0_6 bp0_24 a4_f a4_a a4_c a4_g hbp0_24 a4_k a4_h) (by rintro v H' ⟨bk0_30, h_13, rfl, rfl⟩; exact ⟨[bk0_30, a4_g], rfl, bk0_30, h_13, rfl, rfl⟩)) rfl rfl ?_
          rintro _ _ ⟨bk0_30, hB_31, rfl, rfl⟩
          refine VO.m rfl rfl (VO.t (v := .i rv_26) (t_extract rfl rfl rfl) rfl rfl (VO.t (v := .i rv_27) (t_extract rfl rfl rfl) rfl rfl (VO.a (v := .i rv_26) rfl rfl (VO.a (v := .i rv_27) rfl rfl (VO.n (VW.subK (.c 0 rfl (.c 1 rfl (.c 2 rfl (.c 4 rfl (.c 10 rfl (.c 11 rfl (.c 12 rfl (.c 3 rfl (.c 13 rfl (.c 14 rfl .n)))))))))) rfl (VW.seq (VW.q (VO.m rfl rfl ?_)))))))))
          refine VO.t (v := .bool (rv_27 == 2)) (t_cmp rfl rfl rfl (fun _ _ => rfl) rfl) rfl rfl (VO.n (VW.subK (.c 0 rfl (.c 1 rfl (.c 2 rfl (.c 4 rfl (.c 10 rfl (.c 11 rfl (.c 12 rfl (.c 3 rfl (.c 13 rfl (.c 14 rfl (.c 56 rfl .n))))))))))) rfl ?_))
          obtain ⟨o_32, h, hx_33⟩ := obind h
          refine VW.joinQ (E := List Pr × Int × Int × Seg) (I := fun ⟨bu_34, pivot_35, hint_36, bp0_37⟩ => (bu_34, pivot_35, hint_36) = o_32 ∧ Buf 2 (bu_34.map Pr.c) vp0_6 bp0_37 ∧ True) (env' := fun ⟨bu_34, pivot_35, hint_36, bp0_37⟩ => ⟨[(0, vp0_6), (1, .i a_1), (2, .i b_2), (4, .func (.func a4_f) a4_a a4_c), (10, .bool wasBalanced_4), (11, .bool wasPartitioned_5), (12, .i (w64 (b_2 - a_1))), (3, .i limit_23), (13, .i pivot_35), (14, .i hint_36)], []⟩) (H' := fun ⟨bu_34, pivot_35, hint_36, bp0_37⟩ => hq ([bp0_37, a4_g]) []) ?_ (fun J_38 => ?_)
          · rintro ⟨bu_34, pivot_35, hint_36, bp0_37⟩ ⟨ho_, hbp0_37, _⟩
            subst ho_
            replace h := hx_33
            clear hx_33
            try dsimp only at h
            show VW _ _ _ _ ⟨[(0, vp0_6), (1, .i a_1), (2, .i b_2), (4, .func (.func a4_f) a4_a a4_c), (10, .bool wasBalanced_4), (11, .bool wasPartitioned_5), (12, .i (w64 (b_2 - a_1))), (3, .i limit_23), (13, .i pivot_35), (14, .i hint_36)], []⟩ (hq ([bp0_37, a4_g]) [])
            refine VW.seq (VW.seq ?_)
            obtain ⟨o_39, h, hx_40⟩ := obind h
            refine VW.joinQ (E := Bool × Seg) (I := fun ⟨x_41, bp0_42⟩ => x_41 = o_39 ∧ Buf 2 (bu_34.map Pr.c) vp0_6 bp0_42 ∧ True) (env' := fun ⟨x_41, bp0_42⟩ => ⟨[(0, vp0_6), (1, .i a_1), (2, .i b_2), (4, .func (.func a4_f) a4_a a4_c), (10, .bool wasBalanced_4), (11, .bool wasPartitioned_5), (12, .i (w64 (b_2 - a_1))), (3, .i limit_23), (13, .i pivot_35), (75, .bool x_41)], []⟩) (H' := fun ⟨x_41, bp0_42⟩ => hq ([bp0_42, a4_g]) []) ?_ (fun J_43 => ?_)
            · rintro ⟨x_41, bp0_42⟩ ⟨ho_, hbp0_42, _⟩
              subst ho_
              replace h := hx_40
              clear hx_40
              try dsimp only at h
              show VW _ _ _ _ ⟨[(0, vp0_6), (1, .i a_1), (2, .i b_2), (4, .func (.func a4_f) a4_a a4_c), (10, .bool wasBalanced_4), (11, .bool wasPartitioned_5), (12, .i (w64 (b_2 - a_1))), (3, .i limit_23), (13, .i pivot_35), (75, .bool x_41)], []⟩ (hq ([bp0_42, a4_g]) [])
              obtain ⟨o_44, h, hx_45⟩ := obind h
              refine VW.joinQ (E := List Pr × Seg) (I := fun ⟨bu_46, bp0_47⟩ => Sum.inl bu_46 = o_44 ∧ Buf 2 (bu_46.map Pr.c) vp0_6 bp0_47 ∧ True) (env' := fun ⟨bu_46, bp0_47⟩ => ⟨[(0, vp0_6), (1, .i a_1), (2, .i b_2), (4, .func (.func a4_f) a4_a a4_c), (10, .bool wasBalanced_4), (11, .bool wasPartitioned_5), (12, .i (w64 (b_2 - a_1))), (3, .i limit_23), (13, .i pivot_35)], []⟩) (H' := fun ⟨bu_46, bp0_47⟩ => hq ([bp0_47, a4_g]) []) ?_ (fun J_48 => ?_)
              · rintro ⟨bu_46, bp0_47⟩ ⟨ho_, hbp0_47, _⟩
                subst ho_
                replace h := hx_45
                clear hx_45
                try dsimp only at h
                show VW _ _ _ _ ⟨[(0, vp0_6), (1, .i a_1), (2, .i b_2), (4, .func (.func a4_f) a4_a a4_c), (10, .bool wasBalanced_4), (11, .bool wasPartitioned_5), (12, .i (w64 (b_2 - a_1))), (3, .i limit_23), (13, .i pivot_35)], []⟩ (hq ([bp0_47, a4_g]) [])
                refine VW.seq (VW.seq ?_)
                obtain ⟨o_49, h, hx_50⟩ := obind h
                refine VW.joinQ (E := Bool × Seg) (I := fun ⟨x_51, bp0_52⟩ => x_51 = o_49 ∧ Buf 2 (bu_46.map Pr.c) vp0_6 bp0_52 ∧ True) (env' := fun ⟨x_51, bp0_52⟩ => ⟨[(0, vp0_6), (1, .i a_1), (2, .i b_2), (4, .func (.func a4_f) a4_a a4_c), (10, .bool wasBalanced_4), (11, .bool wasPartitioned_5), (12, .i (w64 (b_2 - a_1))), (3, .i limit_23), (13, .i pivot_35), (97, .bool x_51)], []⟩) (H' := fun ⟨x_51, bp0_52⟩ => hq ([a4_g, bp0_52]) []) ?_ (fun J_53 => ?_)
                · rintro ⟨x_51, bp0_52⟩ ⟨ho_, hbp0_52, _⟩
                  subst ho_
                  replace h := hx_50
                  clear hx_50
                  try dsimp only at h
                  show VW _ _ _ _ ⟨[(0, vp0_6), (1, .i a_1), (2, .i b_2), (4, .func (.func a4_f) a4_a a4_c), (10, .bool wasBalanced_4), (11, .bool wasPartitioned_5), (12, .i (w64 (b_2 - a_1))), (3, .i limit_23), (13, .i pivot_35), (97, .bool x_51)], []⟩ (hq ([a4_g, bp0_52]) [])
                  refine VW.cond (b := x_51) rfl (fun hc_54 => ?_) (fun hc_54 => ?_)
                  · replace h := iteT h hc_54
                    refine VW.q (VO.m rfl rfl (VO.m rfl rfl (VO.m rfl rfl (VO.m rfl rfl (VO.m rfl rfl (VO.frontS 0 rfl (VO.frontS 1 rfl ?_)))))))
                    obtain ⟨⟨rv_55, k_56⟩, hx_57, h⟩ := obind h
                    try dsimp only at h
                    refine VO.w (fun v H' => ∃ bk0_58, Buf 2 (k_56.map Pr.c) vp0_6 bk0_58 ∧ .i rv_55 = v ∧ H' = hq ([bk0_58, a4_g]) []) (w_call_q (sa := [bp0_52, a4_g]) (sg := []) (tks := []) rfl fn76 rfl ⟨_, _, rfl, rfl, _, _, rfl, rfl, _, _, rfl, rfl, _, _, rfl, rfl, _, _, rfl, rfl, rfl⟩ (slices_partitionEqualCmpFunc_2int_ok _ _ _ _ _ _ hx_57 vp0_6 bp0_52 a4_f a4_a a4_c a4_g hbp0_52 a4_k a4_h) (by rintro v H' ⟨bk0_58, h_13, rfl, rfl⟩; exact ⟨[bk0_58, a4_g], rfl, bk0_58, h_13, rfl, rfl⟩)) rfl rfl ?_
                    rintro _ _ ⟨bk0_58, hB_59, rfl, rfl⟩
                    refine VO.a (v := .i rv_55) rfl rfl (VO.n (VW.k7 0 2 4 10 11 3 15 rfl (VW.q (VO.m rfl rfl (VO.a (v := .i rv_55) rfl rfl (VO.n (VW.k7 0 2 4 10 11 3 1 rfl (VW.exit (thenQ_exit ?_)))))))))
                    refine blockQ_hit (thenQ_normal (VL.round ?_))
                    refine VW.k7 0 1 2 3 4 10 11 rfl ?_
                    exact ih_slices_pdqsortCmpFunc_2int_l0 _ _ _ _ _ _ _ h a4_f a4_a a4_c a4_g a4_k a4_h _ vp0_6 bk0_58 hB_59 hx0
                  · replace h := iteF h hc_54
                    refine VW.skip (thenQ_normal (VW.k7 0 1 2 4 12 3 13 rfl (VW.q (VO.m rfl rfl (VO.m rfl rfl (VO.m rfl rfl (VO.m rfl rfl (VO.m rfl rfl (VO.frontS 0 rfl ?_)))))))))
                    refine VO.frontS 1 rfl ?_
                    obtain ⟨⟨rv_60, rv_61, k_62⟩, hx_63, h⟩ := obind h
                    try dsimp only at h
                    refine VO.w (fun v H' => ∃ bk0_64, Buf 2 (k_62.map Pr.c) vp0_6 bk0_64 ∧ .tup [.i rv_60, .bool rv_61] = v ∧ H' = hq ([bk0_64, a4_g]) []) (w_call_q (sa := [bp0_52, a4_g]) (sg := []) (tks := []) rfl fn77 rfl ⟨_, _, rfl, rfl, _, _, rfl, rfl, _, _, rfl, rfl, _, _, rfl, rfl, _, _, rfl, rfl, rfl⟩ (slices_partitionCmpFunc_2int_ok _ _ _ _ _ _ hx_63 vp0_6 bp0_52 a4_f a4_a a4_c a4_g hbp0_52 a4_k a4_h) (by rintro v H' ⟨bk0_64, h_13, rfl, rfl⟩; exact ⟨[bk0_64, a4_g], rfl, bk0_64, h_13, rfl, rfl⟩)) rfl rfl ?_
                    rintro _ _ ⟨bk0_64, hB_65, rfl, rfl⟩
                    refine VO.m rfl rfl (VO.t (v := .i rv_60) (t_extract rfl rfl rfl) rfl rfl (VO.t (v := .bool rv_61) (t_extract rfl rfl rfl) rfl rfl (VO.a (v := .i rv_60) rfl rfl (VO.a (v := .bool rv_61) rfl rfl (VO.n (VW.k8 0 1 2 4 12 3 16 17 rfl (VW.q (VO.m rfl rfl (VO.a (v := .bool rv_61) rfl rfl ?_)))))))))
                    refine VO.n (VW.k8 0 1 2 4 12 3 16 11 rfl (VW.q (VO.m rfl rfl (VO.m rfl rfl (VO.t (v := .i (w64 (rv_60 - a_1))) (t_sub rfl rfl rfl rfl) rfl rfl (VO.m rfl rfl (VO.m rfl rfl (VO.t (v := .i (w64 (b_2 - rv_60))) (t_sub rfl rfl rfl rfl) rfl rfl (VO.a (v := .i (w64 (rv_60 - a_1))) rfl rfl ?_)))))))))
                    refine VO.a (v := .i (w64 (b_2 - rv_60))) rfl rfl (VO.n (VW.subK (.c 0 rfl (.c 1 rfl (.c 2 rfl (.c 4 rfl (.c 12 rfl (.c 3 rfl (.c 16 rfl (.c 11 rfl (.c 18 rfl (.c 19 rfl .n)))))))))) rfl (VW.q (VO.m rfl rfl (VO.t (v := .i (w64 (Int.tdiv (w64 (b_2 - a_1)) 8))) (t_quo rfl rfl (fun _ _ => rfl) (by decide) rfl) rfl rfl (VO.a (v := .i (w64 (Int.tdiv (w64 (b_2 - a_1)) 8))) rfl rfl (VO.n (VW.subK (.c 0 rfl (.c 1 rfl (.c 2 rfl (.c 4 rfl (.c 3 rfl (.c 16 rfl (.c 11 rfl (.c 18 rfl (.c 19 rfl (.c 20 rfl .n)))))))))) rfl (VW.q ?_)))))))))
                    refine VO.m rfl rfl (VO.m rfl rfl (VO.t (v := .bool (decide ((w64 (rv_60 - a_1)) < (w64 (b_2 - rv_60))))) (t_cmp rfl rfl rfl rfl rfl) rfl rfl (VO.n (VW.subK (.c 0 rfl (.c 1 rfl (.c 2 rfl (.c 4 rfl (.c 3 rfl (.c 16 rfl (.c 11 rfl (.c 18 rfl (.c 19 rfl (.c 20 rfl (.c 125 rfl .n))))))))))) rfl ?_))))
                    refine VW.cond (b := (decide ((w64 (rv_60 - a_1)) < (w64 (b_2 - rv_60))))) rfl (fun hc_66 => ?_) (fun hc_66 => ?_)
                    · replace h := iteT h hc_66
                      refine VW.q (VO.m rfl rfl (VO.m rfl rfl (VO.t (v := .bool (decide ((w64 (rv_60 - a_1)) ≥ (w64 (Int.tdiv (w64 (b_2 - a_1)) 8))))) (t_cmp rfl rfl rfl rfl rfl) rfl rfl (VO.a (v := .bool (decide ((w64 (rv_60 - a_1)) ≥ (w64 (Int.tdiv (w64 (b_2 - a_1)) 8))))) rfl rfl (VO.n (VW.k8 0 1 2 4 3 16 11 10 rfl (VW.q (VO.m rfl rfl (VO.m rfl rfl ?_)))))))))
                      refine VO.m rfl rfl (VO.m rfl rfl (VO.m rfl rfl ?_))
                      obtain ⟨k_67, hx_68, h⟩ := obind h
                      refine VO.w (fun v H' => ∃ bk0_69, Buf 2 (k_67.map Pr.c) vp0_6 bk0_69 ∧ .tup [] = v ∧ H' = hq ([bk0_69, a4_g]) []) (w_call_q (sa := [bk0_64, a4_g]) (sg := []) (tks := []) rfl fn64 rfl ⟨_, _, rfl, rfl, _, _, rfl, rfl, _, _, rfl, rfl, _, _, rfl, rfl, _, _, rfl, rfl, rfl⟩ (ih_slices_pdqsortCmpFunc_2int _ _ _ _ _ hx_68 vp0_6 bk0_64 a4_f a4_a a4_c a4_g hB_65 a4_k a4_h) (by rintro v H' ⟨bk0_69, h_13, rfl, rfl⟩; exact ⟨[bk0_69, a4_g], rfl, bk0_69, h_13, rfl, rfl⟩)) rfl rfl ?_
                      rintro _ _ ⟨bk0_69, hB_70, rfl, rfl⟩
                      refine VO.n (VW.k7 0 2 4 3 16 11 10 rfl (VW.region (VO.m rfl rfl (VO.t (v := .i (w64 (rv_60 + 1))) (t_add rfl rfl (fun _ _ => rfl) rfl) rfl rfl (VO.a (v := .i (w64 (rv_60 + 1))) rfl rfl (VO.nil (blockQ_normal (thenQ_normal (VL.round ?_)))))))))
                      refine VW.k7 0 1 2 3 4 10 11 rfl ?_
                      exact ih_slices_pdqsortCmpFunc_2int_l0 _ _ _ _ _ _ _ h a4_f a4_a a4_c a4_g a4_k a4_h _ vp0_6 bk0_69 hB_70 hx0
                    · replace h := iteF h hc_66
                      refine VW.q (VO.m rfl rfl (VO.m rfl rfl (VO.t (v := .bool (decide ((w64 (b_2 - rv_60)) ≥ (w64 (Int.tdiv (w64 (b_2 - a_1)) 8))))) (t_cmp rfl rfl rfl rfl rfl) rfl rfl (VO.a (v := .bool (decide ((w64 (b_2 - rv_60)) ≥ (w64 (Int.tdiv (w64 (b_2 - a_1)) 8))))) rfl rfl (VO.n (VW.k8 0 1 2 4 3 16 11 10 rfl (VW.q (VO.m rfl rfl (VO.m rfl rfl ?_)))))))))
                      refine VO.t (v := .i (w64 (rv_60 + 1))) (t_add rfl rfl (fun _ _ => rfl) rfl) rfl rfl (VO.m rfl rfl (VO.m rfl rfl (VO.m rfl rfl ?_)))
                      obtain ⟨k_71, hx_72, h⟩ := obind h
                      refine VO.w (fun v H' => ∃ bk0_73, Buf 2 (k_71.map Pr.c) vp0_6 bk0_73 ∧ .tup [] = v ∧ H' = hq ([bk0_73, a4_g]) []) (w_call_q (sa := [bk0_64, a4_g]) (sg := []) (tks := []) rfl fn64 rfl ⟨_, _, rfl, rfl, _, _, rfl, rfl, _, _, rfl, rfl, _, _, rfl, rfl, _, _, rfl, rfl, rfl⟩ (ih_slices_pdqsortCmpFunc_2int _ _ _ _ _ hx_72 vp0_6 bk0_64 a4_f a4_a a4_c a4_g hB_65 a4_k a4_h) (by rintro v H' ⟨bk0_73, h_13, rfl, rfl⟩; exact ⟨[bk0_73, a4_g], rfl, bk0_73, h_13, rfl, rfl⟩)) rfl rfl ?_
                      rintro _ _ ⟨bk0_73, hB_74, rfl, rfl⟩
                      refine VO.n (VW.k7 0 1 4 3 16 11 10 rfl (VW.region (VO.m rfl rfl (VO.a (v := .i rv_60) rfl rfl (VO.nil (blockQ_normal (thenQ_normal (VL.round ?_))))))))
                      refine VW.k7 0 1 2 3 4 10 11 rfl ?_
                      exact ih_slices_pdqsortCmpFunc_2int_l0 _ _ _ _ _ _ _ h a4_f a4_a a4_c a4_g a4_k a4_h _ vp0_6 bk0_73 hB_74 hx0
                · refine VW.draw 17 mix rfl (VA.t (i := 0) rfl (t_move rfl rfl) (.inl rfl) (by kernel_rfl) (VA.t (i := 1) (v := .bool (decide (a_1 > 0))) rfl (t_cmp rfl rfl rfl (fun _ _ => rfl) rfl) (.inl rfl) (by kernel_rfl) (VA.t (i := 2) rfl (t_move rfl rfl) (.inl rfl) (by kernel_rfl) ?_)))
                  refine VA.caseB (d := 83) (b := (decide (a_1 > 0))) rfl (fun hc_75 => ?_) (fun hc_75 => ?_)
                  · replace h := iteT h hc_75
                    refine VA.phase (g := 4) [3, 4, 5, 6, 7, 8, 9, 10, 11, 12] 10 (VP.take (i := 3) rfl (TOp.r (t_move rfl rfl)) (.inr ⟨_, _, _, rfl, rfl, rfl⟩) (by kernel_rfl) (VP.take (i := 4) rfl (TOp.r (t_move rfl rfl)) (.inr ⟨_, _, _, rfl, rfl, rfl⟩) (by kernel_rfl) (VP.take (i := 5) rfl (TOp.r (t_move rfl rfl)) (.inr ⟨_, _, _, rfl, rfl, rfl⟩) (by kernel_rfl) (VP.take (i := 6) (v := .i (w64 (a_1 - 1))) rfl (TOp.r (t_sub rfl rfl (fun _ _ => rfl) rfl)) (.inr ⟨_, _, _, rfl, rfl, rfl⟩) (by kernel_rfl) ?_))))
                    obtain ⟨c_76, hc_76, h⟩ := obind h
                    obtain ⟨ob_77, cap_77, len_77, sl_77, rfl, rfl, hE_77, hl_77, hc_77, hs_77⟩ := buf_at hbp0_47 hc_76
                    refine VP.take (i := 7) (v := .ptr ob_77 ((w64 (a_1 - 1)).toNat * 2 + 0)) rfl (TOp.r (t_index_own rfl sl31 rfl rfl (getI_some hc_76).1 (by rw [hl_77]; exact getI_lt hc_76) rfl)) (.inr ⟨_, _, _, rfl, rfl, rfl⟩) (by kernel_rfl) (VP.take (i := 8) (v := .agg (Pr.c c_76)) rfl (r_load_buf (n := 2) (f := 0) (j := 0) rfl sz59 rfl rfl hE_77 (map_get (getI_some hc_76).2 (Pr.c_eq c_76)) (nle rfl) (fun _ => ofCells_agg rfl)) (.inr ⟨_, _, _, rfl, rfl, rfl⟩) (by kernel_rfl) (VP.take (i := 9) rfl (TOp.r (t_move rfl rfl)) (.inr ⟨_, _, _, rfl, rfl, rfl⟩) (by kernel_rfl) (VP.take (i := 10) rfl (TOp.r (t_move rfl rfl)) (.inr ⟨_, _, _, rfl, rfl, rfl⟩) (by kernel_rfl) ?_)))
                    obtain ⟨c_78, hc_78, h⟩ := obind h
                    refine VP.take (i := 11) (v := .ptr ob_77 (pivot_35.toNat * 2 + 0)) rfl (TOp.r (t_index_own rfl sl31 rfl rfl (getI_some hc_78).1 (by rw [hl_77]; exact getI_lt hc_78) rfl)) (.inr ⟨_, _, _, rfl, rfl, rfl⟩) (by kernel_rfl) (VP.take (i := 12) (v := .agg (Pr.c c_78)) rfl (r_load_buf (n := 2) (f := 0) (j := 0) rfl sz59 rfl rfl hE_77 (map_get (getI_some hc_78).2 (Pr.c_eq c_78)) (nle rfl) (fun _ => ofCells_agg rfl)) (.inr ⟨_, _, _, rfl, rfl, rfl⟩) (by kernel_rfl) (VP.done (by kernel_rfl) (VA.frontS 1 rfl ?_)))
                    obtain ⟨rv_79, hx_80, h⟩ := obind h
                    refine VA.w (i := 13) (fun v H' => .i rv_79 = v ∧ H' = hq ([a4_g, [(ob_77, .cells ((bu_46.map Pr.c).flatten ++ sl_77))]]) []) rfl (w_call_q (sa := [a4_g]) (sg := [[(ob_77, .cells ((bu_46.map Pr.c).flatten ++ sl_77))]]) (tks := []) rfl a4_k rfl ⟨_, _, rfl, rfl, _, _, rfl, rfl, rfl⟩ (a4_h _ _ _ hx_80) (by rintro v H' ⟨rfl, rfl⟩; exact ⟨[a4_g], rfl, rfl, rfl⟩)) (.inr ⟨_, _, _, rfl, rfl, rfl⟩) (by kernel_rfl) rfl ?_
                    rintro _ _ ⟨rfl, rfl⟩
                    refine VA.t (i := 14) (v := .bool (decide (rv_79 < 0))) rfl (t_cmp rfl rfl rfl (fun _ _ => rfl) rfl) (.inr ⟨_, _, _, rfl, rfl, rfl⟩) (by kernel_rfl) (VA.t (i := 15) (v := .bool (!(decide (rv_79 < 0)))) rfl (t_not rfl rfl rfl) (.inr ⟨_, _, _, rfl, rfl, rfl⟩) (by kernel_rfl) (VA.t (i := 16) (v := .bool (!(decide (rv_79 < 0)))) rfl (t_pick (b := true) rfl rfl (fun _ => rfl) (fun h => by cases h)) (.inl rfl) (by kernel_rfl) (VA.subN (t' := [(0, .own ob_77 cap_77 len_77), (1, .i a_1), (2, .i b_2), (4, .func (.func a4_f) a4_a a4_c), (10, .bool wasBalanced_4), (11, .bool wasPartitioned_5), (12, .i (w64 (b_2 - a_1))), (3, .i limit_23), (13, .i pivot_35), (97, .bool (!(decide (rv_79 < 0))))]) ⟨⟨_, rfl, VLe.refl _⟩, ⟨_, rfl, VLe.refl _⟩, ⟨_, rfl, VLe.refl _⟩, ⟨_, rfl, VLe.refl _⟩, ⟨_, rfl, VLe.refl _⟩, ⟨_, rfl, VLe.refl _⟩, ⟨_, rfl, VLe.refl _⟩, ⟨_, rfl, VLe.refl _⟩, ⟨_, rfl, VLe.refl _⟩, ⟨_, rfl, VLe.refl _⟩, trivial⟩ rfl (VA.done (by kernel_rfl) ?_))))
                    exact thenQ_normal (J_53 ⟨!(decide (rv_79 < 0)), [(ob_77, .cells ((bu_46.map Pr.c).flatten ++ sl_77))]⟩ ⟨Option.some.inj h, (Buf.own (n := 2) (l := bu_46.map Pr.c) ob_77 cap_77 len_77 sl_77 (elemsOK_map Pr.c_ok _) (by simp [hl_77]) hc_77 hs_77), trivial⟩)
                  · replace h := iteF h hc_75
                    refine VA.s 3 rfl (by kernel_rfl) (VA.s 4 rfl (by kernel_rfl) (VA.s 5 rfl (by kernel_rfl) (VA.s 6 rfl (by kernel_rfl) (VA.s 7 rfl (by kernel_rfl) (VA.s 8 rfl (by kernel_rfl) (VA.s 9 rfl (by kernel_rfl) (VA.s 10 rfl (by kernel_rfl) (VA.s 11 rfl (by kernel_rfl) (VA.s 12 rfl (by kernel_rfl) ?_)))))))))
                    refine VA.s 13 rfl (by kernel_rfl) (VA.s 14 rfl (by kernel_rfl) (VA.s 15 rfl (by kernel_rfl) (VA.t (i := 16) (v := .bool false) rfl (t_pick (b := false) rfl rfl (fun h => by cases h) (fun _ => (fun _ _ => rfl))) (.inl rfl) (by kernel_rfl) (VA.subN (t' := [(0, vp0_6), (1, .i a_1), (2, .i b_2), (4, .func (.func a4_f) a4_a a4_c), (10, .bool wasBalanced_4), (11, .bool wasPartitioned_5), (12, .i (w64 (b_2 - a_1))), (3, .i limit_23), (13, .i pivot_35), (97, .bool false)]) ⟨⟨_, rfl, VLe.refl _⟩, ⟨_, rfl, VLe.refl _⟩, ⟨_, rfl, VLe.refl _⟩, ⟨_, rfl, VLe.refl _⟩, ⟨_, rfl, VLe.refl _⟩, ⟨_, rfl, VLe.refl _⟩, ⟨_, rfl, VLe.refl _⟩, ⟨_, rfl, VLe.refl _⟩, ⟨_, rfl, VLe.refl _⟩, ⟨_, rfl, VLe.refl _⟩, trivial⟩ rfl (VA.frontS 0 rfl (VA.frontS 1 rfl (VA.done (by kernel_rfl) ?_)))))))
                    exact thenQ_normal (J_53 ⟨false, bp0_47⟩ ⟨Option.some.inj h, hbp0_47, trivial⟩)
              · refine VW.cond (b := x_41) rfl (fun hc_81 => ?_) (fun hc_81 => ?_)
                · replace h := iteT h hc_81
                  refine VW.q (VO.m rfl rfl (VO.m rfl rfl (VO.m rfl rfl (VO.m rfl rfl ?_))))
                  obtain ⟨⟨rv_82, k_83⟩, hx_84, h⟩ := obind h
                  try dsimp only at h
                  refine VO.w (fun v H' => ∃ bk0_85, Buf 2 (k_83.map Pr.c) vp0_6 bk0_85 ∧ .bool rv_82 = v ∧ H' = hq ([bk0_85, a4_g]) []) (w_call_q (sa := [bp0_42, a4_g]) (sg := []) (tks := []) rfl fn75 rfl ⟨_, _, rfl, rfl, _, _, rfl, rfl, _, _, rfl, rfl, _, _, rfl, rfl, rfl⟩ (slices_partialInsertionSortCmpFunc_2int_ok _ _ _ _ _ hx_84 vp0_6 bp0_42 a4_f a4_a a4_c a4_g hbp0_42 a4_k a4_h) (by rintro v H' ⟨bk0_85, h_13, rfl, rfl⟩; exact ⟨[bk0_85, a4_g], rfl, bk0_85, h_13, rfl, rfl⟩)) rfl rfl ?_
                  rintro _ _ ⟨bk0_85, hB_86, rfl, rfl⟩
                  refine VO.n (VW.subK (.c 0 rfl (.c 1 rfl (.c 2 rfl (.c 4 rfl (.c 10 rfl (.c 11 rfl (.c 12 rfl (.c 3 rfl (.c 13 rfl (.c 80 rfl .n)))))))))) rfl ?_)
                  refine VW.cond (b := rv_82) rfl (fun hc_87 => ?_) (fun hc_87 => ?_)
                  · replace h := iteT h hc_87
                    refine VW.subN (t' := []) trivial rfl (VW.subN (t' := []) trivial rfl (VW.ret ?_))
                    obtain ⟨z_88, hz_89, h⟩ := obind h
                    obtain rfl := oi h
                    try dsimp only at hx_45
                    have hx_45 := Option.some.inj hx_45
                    subst hx_45
                    have h := hz_89
                    refine thenQ_ret (blockQ_ret (thenQ_ret ?_))
                    obtain rfl := oi h
                    exact hx0 _ bk0_85 rfl hB_86
                  · replace h := iteF h hc_87
                    refine VW.subK (.c 0 rfl (.c 1 rfl (.c 2 rfl (.c 4 rfl (.c 10 rfl (.c 11 rfl (.c 12 rfl (.c 3 rfl (.c 13 rfl .n))))))))) rfl (VW.skip ?_)
                    exact thenQ_normal (J_48 ⟨k_83, bk0_85⟩ ⟨Option.some.inj h, hB_86, trivial⟩)
                · replace h := iteF h hc_81
                  refine VW.subK (.c 0 rfl (.c 1 rfl (.c 2 rfl (.c 4 rfl (.c 10 rfl (.c 11 rfl (.c 12 rfl (.c 3 rfl (.c 13 rfl .n))))))))) rfl (VW.skip ?_)
                  exact thenQ_normal (J_48 ⟨bu_34, bp0_42⟩ ⟨Option.some.inj h, hbp0_42, trivial⟩)
            · refine VW.region (VO.m rfl rfl (VO.m rfl rfl ?_))
              refine VO.caseB (d := 69) (b := wasBalanced_4) rfl (fun hc_90 => ?_) (fun hc_90 => ?_)
              · replace h := iteT h hc_90
                refine VO.gt (v := .bool wasPartitioned_5) (t_move rfl rfl) rfl rfl rfl rfl (VO.t (v := .bool wasPartitioned_5) (t_pick (b := true) rfl rfl (fun _ => rfl) (fun h => by cases h)) rfl rfl (VO.m rfl rfl ?_))
                refine VO.caseB (d := 72) (b := wasPartitioned_5) rfl (fun hc_91 => ?_) (fun hc_91 => ?_)
                · replace h := iteT h hc_91
                  refine VO.gt (v := .i hint_36) (t_move rfl rfl) rfl rfl rfl rfl (VO.gt (v := .bool (hint_36 == 1)) (t_cmp rfl rfl rfl (fun _ _ => rfl) rfl) rfl rfl rfl rfl (VO.t (v := .bool (hint_36 == 1)) (t_pick (b := true) rfl rfl (fun _ => rfl) (fun h => by cases h)) rfl rfl (VO.subK (.c 0 rfl (.c 1 rfl (.c 2 rfl (.c 4 rfl (.c 10 rfl (.c 11 rfl (.c 12 rfl (.c 3 rfl (.c 13 rfl (.c 75 rfl .n)))))))))) rfl (VO.nil ?_))))
                  exact thenQ_normal (J_43 ⟨hint_36 == 1, bp0_37⟩ ⟨Option.some.inj h, hbp0_37, trivial⟩)
                · replace h := iteF h hc_91
                  refine VO.s rfl (VO.s rfl (VO.t (v := .bool false) (t_pick (b := false) rfl rfl (fun h => by cases h) (fun _ => (fun _ _ => rfl))) rfl rfl (VO.subK (.c 0 rfl (.c 1 rfl (.c 2 rfl (.c 4 rfl (.c 10 rfl (.c 11 rfl (.c 12 rfl (.c 3 rfl (.c 13 rfl (.c 75 rfl .n)))))))))) rfl (VO.nil ?_))))
                  exact thenQ_normal (J_43 ⟨false, bp0_37⟩ ⟨Option.some.inj h, hbp0_37, trivial⟩)
              · replace h := iteF h hc_90
                refine VO.s rfl (VO.t (v := .bool false) (t_pick (b := false) rfl rfl (fun h => by cases h) (fun _ => (fun _ _ => rfl))) rfl rfl (VO.m rfl rfl (VO.s rfl (VO.s rfl (VO.t (v := .bool false) (t_pick (b := false) rfl rfl (fun h => by cases h) (fun _ => (fun _ _ => rfl))) rfl rfl (VO.subK (.c 0 rfl (.c 1 rfl (.c 2 rfl (.c 4 rfl (.c 10 rfl (.c 11 rfl (.c 12 rfl (.c 3 rfl (.c 13 rfl (.c 75 rfl .n)))))))))) rfl (VO.nil ?_)))))))
                exact thenQ_normal (J_43 ⟨false, bp0_37⟩ ⟨Option.some.inj h, hbp0_37, trivial⟩)
          · refine VW.cond (b := (rv_27 == 2)) rfl (fun hc_92 => ?_) (fun hc_92 => ?_)
            · replace h := iteT h hc_92
              refine VW.q (VO.m rfl rfl (VO.m rfl rfl (VO.m rfl rfl (VO.m rfl rfl ?_))))
              obtain ⟨k_93, hx_94, h⟩ := obind h
              refine VO.w (fun v H' => ∃ bk0_95, Buf 2 (k_93.map Pr.c) vp0_6 bk0_95 ∧ .tup [] = v ∧ H' = hq ([bk0_95, a4_g]) []) (w_call_q (sa := [bk0_30, a4_g]) (sg := []) (tks := []) rfl fn74 rfl ⟨_, _, rfl, rfl, _, _, rfl, rfl, _, _, rfl, rfl, _, _, rfl, rfl, rfl⟩ (slices_reverseRangeCmpFunc_2int_ok _ _ _ _ _ hx_94 vp0_6 bk0_30 a4_f a4_a a4_c a4_g hB_31 a4_k a4_h) (by rintro v H' ⟨bk0_95, h_13, rfl, rfl⟩; exact ⟨[bk0_95, a4_g], rfl, bk0_95, h_13, rfl, rfl⟩)) rfl rfl ?_
              rintro _ _ ⟨bk0_95, hB_96, rfl, rfl⟩
              refine VO.n (VW.subK (.c 0 rfl (.c 1 rfl (.c 2 rfl (.c 4 rfl (.c 10 rfl (.c 11 rfl (.c 12 rfl (.c 3 rfl (.c 13 rfl .n))))))))) rfl (VW.q (VO.m rfl rfl (VO.t (v := .i (w64 (b_2 - 1))) (t_sub rfl rfl (fun _ _ => rfl) rfl) rfl rfl (VO.m rfl rfl (VO.m rfl rfl (VO.t (v := .i (w64 (rv_26 - a_1))) (t_sub rfl rfl rfl rfl) rfl rfl (VO.t (v := .i (w64 ((w64 (b_2 - 1)) - (w64 (rv_26 - a_1))))) (t_sub rfl rfl rfl rfl) rfl rfl (VO.a (v := .i (w64 ((w64 (b_2 - 1)) - (w64 (rv_26 - a_1))))) rfl rfl ?_)))))))))
              refine VO.n (VW.subK (.c 0 rfl (.c 1 rfl (.c 2 rfl (.c 4 rfl (.c 10 rfl (.c 11 rfl (.c 12 rfl (.c 3 rfl (.c 13 rfl .n))))))))) rfl (VW.region (VO.a (v := .i 1) rfl (fun _ _ => rfl) (VO.subK (.c 0 rfl (.c 1 rfl (.c 2 rfl (.c 4 rfl (.c 10 rfl (.c 11 rfl (.c 12 rfl (.c 3 rfl (.c 13 rfl (.c 14 rfl .n)))))))))) rfl (VO.nil ?_)))))
              exact thenQ_normal (J_38 ⟨k_93, w64 ((w64 (b_2 - 1)) - (w64 (rv_26 - a_1))), 1, bk0_95⟩ ⟨Option.some.inj h, hB_96, trivial⟩)
            · replace h := iteF h hc_92
              refine VW.subK (.c 0 rfl (.c 1 rfl (.c 2 rfl (.c 4 rfl (.c 10 rfl (.c 11 rfl (.c 12 rfl (.c 3 rfl (.c 13 rfl (.c 14 rfl .n)))))))))) rfl (VW.skip ?_)
              exact thenQ_normal (J_38 ⟨k_28, rv_26, rv_27, bk0_30⟩ ⟨Option.some.inj h, hB_31, trivial⟩)
        · refine VW.cond (b := (!wasBalanced_4)) rfl (fun hc_97 => ?_) (fun hc_97 => ?_)
          · replace h := iteT h hc_97
            refine VW.q (VO.m rfl rfl (VO.m rfl rfl (VO.m rfl rfl (VO.m rfl rfl ?_))))
            obtain ⟨k_98, hx_99, h⟩ := obind h
            refine VO.w (fun v H' => ∃ bk0_100, Buf 2 (k_98.map Pr.c) vp0_6 bk0_100 ∧ .tup [] = v ∧ H' = hq ([bk0_100, a4_g]) []) (w_call_q (sa := [bp0_6, a4_g]) (sg := []) (tks := []) rfl fn72 rfl ⟨_, _, rfl, rfl, _, _, rfl, rfl, _, _, rfl, rfl, _, _, rfl, rfl, rfl⟩ (slices_breakPatternsCmpFunc_2int_ok _ _ _ _ _ hx_99 vp0_6 bp0_6 a4_f a4_a a4_c a4_g hbp0_6 a4_k a4_h) (by rintro v H' ⟨bk0_100, h_13, rfl, rfl⟩; exact ⟨[bk0_100, a4_g], rfl, bk0_100, h_13, rfl, rfl⟩)) rfl rfl ?_
            rintro _ _ ⟨bk0_100, hB_101, rfl, rfl⟩
            refine VO.n (VW.k8 0 1 2 3 4 10 11 12 rfl (VW.region (VO.m rfl rfl (VO.t (v := .i (w64 (limit_3 - 1))) (t_sub rfl rfl (fun _ _ => rfl) rfl) rfl rfl (VO.a (v := .i (w64 (limit_3 - 1))) rfl rfl (VO.subK (.c 0 rfl (.c 1 rfl (.c 2 rfl (.c 4 rfl (.c 10 rfl (.c 11 rfl (.c 12 rfl (.c 3 rfl .n)))))))) rfl (VO.nil ?_)))))))
            exact thenQ_normal (J_25 ⟨k_98, w64 (limit_3 - 1), bk0_100⟩ ⟨Option.some.inj h, hB_101, trivial⟩)
          · replace h := iteF h hc_97
            refine VW.k8 0 1 2 4 10 11 12 3 rfl (VW.skip ?_)
            exact thenQ_normal (J_25 ⟨bu_0, limit_3, bp0_6⟩ ⟨Option.some.inj h, hbp0_6, trivial⟩)
  · intro _ ih_slices_pdqsortCmpFunc_2int_l0 a0 a1 a2 a3 r h v0 b0 a4_f a4_a a4_c a4_g hB0 a4_k a4_h
    refine VCalls.of_body 148 [] Tryd.func64 rfl rfl rfl (nle rfl) (VW.k5 0 1 2 3 4 rfl (VW.q (VO.a (v := .bool true) rfl (fun _ _ => rfl) (VO.n (VW.q (VO.a (v := .bool true) rfl (fun _ _ => rfl) (VO.n (VW.block (VW.k7 0 1 2 3 4 10 11 rfl ?_)))))))))
    obtain ⟨o_102, hx_103, h⟩ := obind h
    refine VW.loopL (ih_slices_pdqsortCmpFunc_2int_l0 _ _ _ _ _ _ _ hx_103 a4_f a4_a a4_c a4_g a4_k a4_h _ v0 b0 hB0 ?_)
    · intro bu_7 bp0_8 ho_ hbp0_8
      subst ho_
      try dsimp only at h
      refine blockQ_ret ?_
      obtain rfl := oi h
      exact ⟨.inr rfl, rfl, _, .tup [], hq [bp0_8, a4_g] [], rfl, VLe.refl _, hq_sub (.cons_cons _ (.cons_cons _ .slnil)) .slnil, bp0_8, hbp0_8, rfl, rfl⟩

theorem slices_SortFunc_2int2int_ok (a0 : List Pr) (a1 : Pr → Pr → Option Int) (r : List Pr) (h : PL.slices_SortFunc_2int2int a0 a1 = some r) (v0 : VV) (b0 : Seg) (a1_f : Nat) (a1_a : List VV) (a1_c : List VV) (a1_g : Seg) (hB0 : Buf 2 (a0.map Pr.c) v0 b0) (a1_k : FnOK Tryd.prog a1_f) (a1_h : ∀ (y0 : Pr) (y1 : Pr) (z : Int), a1 y0 y1 = some z → VCalls Tryd.prog a1_f (a1_a ++ [.agg (Pr.c y0), .agg (Pr.c y1)] ++ a1_c) (hq [a1_g] []) (fun v H => .i z = v ∧ H = hq [a1_g] [])) :
    VCalls Tryd.prog 55 [v0, .func (.func a1_f) a1_a a1_c] (hq [b0, a1_g] []) (fun v H => ∃ bk0, Buf 2 (r.map Pr.c) v0 bk0 ∧ .tup [] = v ∧ H = hq [bk0, a1_g] []) := by
  unfold PL.slices_SortFunc_2int2int at h
  refine VCalls.of_body 14 [] Tryd.func55 rfl rfl rfl (nle rfl) (VW.k2 0 1 rfl (VW.q (VO.m rfl rfl (VO.t (v := .i (a0.length : Int)) (t_len_buf rfl ⟨_, Tryd.underlying31⟩ rfl hB0 (by rw [List.length_map])) rfl rfl (VO.a (v := .i (a0.length : Int)) rfl rfl (VO.n (VW.k3 0 1 4 rfl (VW.region (VO.m rfl rfl ?_)))))))))
  refine VO.m rfl rfl (VO.m rfl rfl (VO.t (v := .int .u64 (IntKind.wrap .u64 ((a0.length : Int)))) (t_conv rfl ⟨_, Tryd.underlying3⟩ Tryd.underlying106 rfl rfl) rfl rfl ?_))
  obtain ⟨rv_0, hx_1, h⟩ := obind h
  refine VO.k (w_keep rfl fn65 rfl ⟨_, _, rfl, rfl, rfl⟩ (math_bits_Len_ok _ _ hx_1)) rfl rfl (VO.m rfl rfl ?_)
  obtain ⟨k_2, hx_3, h⟩ := obind h
  refine VO.w (fun v H' => ∃ bk0_4, Buf 2 (k_2.map Pr.c) v0 bk0_4 ∧ .tup [] = v ∧ H' = hq ([bk0_4, a1_g]) []) (w_call_q (sa := [b0, a1_g]) (sg := []) (tks := []) rfl fn64 rfl ⟨_, _, rfl, rfl, .i 0, _, rfl, (fun _ _ => rfl), _, _, rfl, rfl, _, _, rfl, rfl, _, _, rfl, rfl, rfl⟩ (slices_pdqsortCmpFunc_2int_ok _ _ _ _ _ _ hx_3 v0 b0 a1_f a1_a a1_c a1_g hB0 a1_k a1_h) (by rintro v H' ⟨bk0_4, h_5, rfl, rfl⟩; exact ⟨[bk0_4, a1_g], rfl, bk0_4, h_5, rfl, rfl⟩)) rfl rfl ?_
  rintro _ _ ⟨bk0_4, hB_6, rfl, rfl⟩
  refine VO.subN (t' := []) trivial rfl (VO.nil ?_)
  obtain rfl := oi h
  exact ⟨.inl rfl, rfl, _, .tup [], hq [bk0_4, a1_g] [], rfl, VLe.refl _, hq_sub (.cons_cons _ (.cons_cons _ .slnil)) .slnil, bk0_4, hB_6, rfl, rfl⟩

theorem cmp_isNaN_int_ok (a0 : Int) (r : Bool) (h : PL.cmp_isNaN_int a0 = some r) :
    VCalls Tryd.prog 66 [.i a0] (hq [] []) (fun v H => .bool r = v ∧ H = hq [] []) := by
  unfold PL.cmp_isNaN_int at h
  refine VCalls.of_body 6 [2] Tryd.func66 rfl rfl rfl (nle rfl) (VW.k1 0 rfl (VW.q (VO.a (v := .bool false) rfl (fun _ _ => rfl) (VO.n (VW.k1 0 rfl (VW.q (VO.m rfl rfl (VO.m rfl rfl (VO.t (v := .bool (a0 != a0)) (t_cmp rfl rfl rfl rfl rfl) rfl rfl ?_)))))))))
  refine VO.a (v := .bool (a0 != a0)) rfl rfl (VO.n (VW.ret ?_))
  cases oi h
  exact ret0 rfl rfl ⟨rfl, rfl⟩

theorem cmp_Compare_int_ok (a0 : Int) (a1 : Int) (r : Int) (h : PL.cmp_Compare_int a0 a1 = some r) :
    VCalls Tryd.prog 57 [.i a0, .i a1] (hq [] []) (fun v H => .i r = v ∧ H = hq [] []) := by
  unfold PL.cmp_Compare_int at h
  refine VCalls.of_body 20 [4] Tryd.func57 rfl rfl rfl (nle rfl) (VW.k2 0 1 rfl (VW.q (VO.a (v := .i 0) rfl (fun _ _ => rfl) (VO.n (VW.k2 0 1 rfl (VW.q (VO.m rfl rfl ?_)))))))
  obtain ⟨rv_0, hx_1, h⟩ := obind h
  refine VO.k (w_keep rfl fn66 rfl ⟨_, _, rfl, rfl, rfl⟩ (cmp_isNaN_int_ok _ _ hx_1)) rfl rfl (VO.a (v := .bool rv_0) rfl rfl (VO.n (VW.k3 0 1 5 rfl (VW.q (VO.m rfl rfl ?_)))))
  obtain ⟨rv_2, hx_3, h⟩ := obind h
  refine VO.k (w_keep rfl fn66 rfl ⟨_, _, rfl, rfl, rfl⟩ (cmp_isNaN_int_ok _ _ hx_3)) rfl rfl (VO.a (v := .bool rv_2) rfl rfl (VO.n (VW.k4 0 1 5 6 rfl (VW.seq (VW.q (VO.m rfl rfl (VO.n (VW.k4 0 1 6 11 rfl ?_))))))))
  refine VW.cond (b := rv_0) rfl (fun hc_4 => ?_) (fun hc_4 => ?_)
  · replace h := iteT h hc_4
    refine VW.seq (VW.q (VO.m rfl rfl (VO.n (VW.k1 12 rfl ?_))))
    refine VW.cond (b := rv_2) rfl (fun hc_5 => ?_) (fun hc_5 => ?_)
    · replace h := iteT h hc_5
      refine VW.q (VO.a (v := .i 0) rfl (fun _ _ => rfl) (VO.n (VW.ret (thenQ_ret (thenQ_ret ?_)))))
      cases oi h
      exact ret0 rfl rfl ⟨rfl, rfl⟩
    · replace h := iteF h hc_5
      refine VW.skip (thenQ_normal (VW.subN (t' := []) trivial rfl (VW.q (VO.a (v := .i (-1)) rfl (fun _ _ => rfl) (VO.n (VW.ret (thenQ_ret ?_)))))))
      cases oi h
      exact ret0 rfl rfl ⟨rfl, rfl⟩
  · replace h := iteF h hc_4
    refine VW.skip (thenQ_normal (VW.k3 0 1 6 rfl (VW.seq (VW.q (VO.m rfl rfl (VO.n (VW.k3 0 1 13 rfl ?_)))))))
    refine VW.cond (b := rv_2) rfl (fun hc_6 => ?_) (fun hc_6 => ?_)
    · replace h := iteT h hc_6
      refine VW.q (VO.a (v := .i 1) rfl (fun _ _ => rfl) (VO.n (VW.ret (thenQ_ret ?_))))
      cases oi h
      exact ret0 rfl rfl ⟨rfl, rfl⟩
    · replace h := iteF h hc_6
      refine VW.skip (thenQ_normal (VW.k2 0 1 rfl (VW.seq (VW.q (VO.m rfl rfl (VO.m rfl rfl (VO.t (v := .bool (decide (a0 < a1))) (t_cmp rfl rfl rfl rfl rfl) rfl rfl (VO.n (VW.k3 0 1 16 rfl ?_)))))))))
      refine VW.cond (b := (decide (a0 < a1))) rfl (fun hc_7 => ?_) (fun hc_7 => ?_)
      · replace h := iteT h hc_7
        refine VW.q (VO.a (v := .i (-1)) rfl (fun _ _ => rfl) (VO.n (VW.ret (thenQ_ret ?_))))
        cases oi h
        exact ret0 rfl rfl ⟨rfl, rfl⟩
      · replace h := iteF h hc_7
        refine VW.skip (thenQ_normal (VW.k2 0 1 rfl (VW.seq (VW.q (VO.m rfl rfl (VO.m rfl rfl (VO.t (v := .bool (decide (a0 > a1))) (t_cmp rfl rfl rfl rfl rfl) rfl rfl (VO.n (VW.k1 19 rfl ?_)))))))))
        refine VW.cond (b := (decide (a0 > a1))) rfl (fun hc_8 => ?_) (fun hc_8 => ?_)
        · replace h := iteT h hc_8
          refine VW.q (VO.a (v := .i 1) rfl (fun _ _ => rfl) (VO.n (VW.ret (thenQ_ret ?_))))
          cases oi h
          exact ret0 rfl rfl ⟨rfl, rfl⟩
        · replace h := iteF h hc_8
          refine VW.skip (thenQ_normal (VW.subN (t' := []) trivial rfl (VW.q (VO.a (v := .i 0) rfl (fun _ _ => rfl) (VO.n (VW.ret ?_))))))
          cases oi h
          exact ret0 rfl rfl ⟨rfl, rfl⟩

theorem set_tidy_1_ok (a0 : Pr) (a1 : Pr) (r : Int) (h : PL.set_tidy_1 a0 a1 = some r) :
    VCalls Tryd.prog 56 [.agg (Pr.c a0), .agg (Pr.c a1)] (hq [] []) (fun v H => .i r = v ∧ H = hq [] []) := by
  unfold PL.set_tidy_1 at h
  refine VCalls.of_body 10 [4] Tryd.func56 rfl rfl rfl (nle rfl) (VW.k2 0 1 rfl (VW.q (VO.w (fun v H' => ∃ ob_0, .ptr ob_0 0 = v ∧ H' = hq ([[(ob_0, .cells (Pr.c a0))]]) []) (w_box_q rfl rfl rfl (fun ob => ⟨ob, rfl, rfl⟩)) rfl rfl ?_)))
  rintro _ _ ⟨ob_0, rfl, rfl⟩
  refine VO.w (fun v H' => ∃ ob_1, .ptr ob_1 0 = v ∧ H' = hq ([[(ob_1, .cells (Pr.c a1))], [(ob_0, .cells (Pr.c a0))]]) []) (w_box_q rfl rfl rfl (fun ob => ⟨ob, rfl, rfl⟩)) rfl rfl ?_
  rintro _ _ ⟨ob_1, rfl, rfl⟩
  refine VO.a (v := .i 0) rfl (fun _ _ => rfl) (VO.n (VW.k2 2 3 rfl (VW.q (VO.t (v := .ptr ob_0 0) (t_indexAddr_parr rfl ar59 rfl (fun _ _ => rfl) (by decide) (by decide) rfl) rfl rfl (VO.r (v := .i a0.x0) (r_load_q (i := 1) rfl sz3 rfl rfl rfl) rfl rfl (VO.t (v := .ptr ob_1 0) (t_indexAddr_parr rfl ar59 rfl (fun _ _ => rfl) (by decide) (by decide) rfl) rfl rfl (VO.r (v := .i a1.x0) (r_load_q (i := 0) rfl sz3 rfl rfl rfl) rfl rfl ?_)))))))
  obtain ⟨rv_2, hx_3, h⟩ := obind h
  refine VO.k (w_keep rfl fn57 rfl ⟨_, _, rfl, rfl, _, _, rfl, rfl, rfl⟩ (cmp_Compare_int_ok _ _ _ hx_3)) rfl rfl (VO.a (v := .i rv_2) rfl rfl (VO.n (VW.ret ?_)))
  cases oi h
  exact ret0 rfl rfl ⟨rfl, rfl⟩

theorem set_tidy.l0_ok (k_0 : List Pr) {Q : Exit → Env → HH → Prop} :
    ∀ (out_1 : List Pr) (x_2 : Int) (o : (List Pr)), PL.set_tidy.l0 k_0 out_1 x_2 = some o →
    ∀ (vp0_3 : VV) (bp0_3 : Seg) (vbu4508 : VV) (bbu4508 : Seg) (hbp0_3 : Buf 2 (k_0.map Pr.c) vp0_3 bp0_3) (hbu4508 : Buf 2 (out_1.map Pr.c) vbu4508 bbu4508) (hx0 : ∀ (out_4 : List Pr) (bp0_5 : Seg) (vbu4536 : VV) (bbu4536 : Seg), out_4 = o → Buf 2 (k_0.map Pr.c) vp0_3 bp0_5 → Buf 2 (out_4.map Pr.c) vbu4536 bbu4536 → Q (.exit 0) ⟨[(3, vbu4536)], []⟩ (hq ([bp0_5, bbu4536]) [])), VW Tryd.prog 51 (codeAt [1, 1, 1, 0, 1, 0, 0] (bodyOf Tryd.f39)) (thenQ (VL Tryd.prog 51 (codeAt [1, 1, 1, 0, 1, 0, 0] (bodyOf Tryd.f39)) Q) Q) ⟨[(3, vbu4508), (9, vp0_3), (10, .i (k_0.length : Int)), (11, .i x_2)], []⟩ (hq ([bp0_3, bbu4508]) []) := by
  refine PL.set_tidy.l0.partial_correctness k_0 (motive := fun out_1 x_2 o => ∀ (vp0_3 : VV) (bp0_3 : Seg) (vbu4508 : VV) (bbu4508 : Seg) (hbp0_3 : Buf 2 (k_0.map Pr.c) vp0_3 bp0_3) (hbu4508 : Buf 2 (out_1.map Pr.c) vbu4508 bbu4508) (hx0 : ∀ (out_4 : List Pr) (bp0_5 : Seg) (vbu4536 : VV) (bbu4536 : Seg), out_4 = o → Buf 2 (k_0.map Pr.c) vp0_3 bp0_5 → Buf 2 (out_4.map Pr.c) vbu4536 bbu4536 → Q (.exit 0) ⟨[(3, vbu4536)], []⟩ (hq ([bp0_5, bbu4536]) [])), VW Tryd.prog 51 (codeAt [1, 1, 1, 0, 1, 0, 0] (bodyOf Tryd.f39)) (thenQ (VL Tryd.prog 51 (codeAt [1, 1, 1, 0, 1, 0, 0] (bodyOf Tryd.f39)) Q) Q) ⟨[(3, vbu4508), (9, vp0_3), (10, .i (k_0.length : Int)), (11, .i x_2)], []⟩ (hq ([bp0_3, bbu4508]) [])) ?_
  intro _ ih out_1 x_2 o h vp0_3 bp0_3 vbu4508 bbu4508 hbp0_3 hbu4508 hx0
  refine VW.q (VO.t (v := .bool (decide (x_2 < (k_0.length : Int)))) (t_cmp rfl rfl rfl rfl rfl) rfl rfl (VO.n (VW.seq ?_)))
  refine VW.cond (b := (decide (x_2 < (k_0.length : Int)))) rfl (fun hc_6 => ?_) (fun hc_6 => ?_)
  · replace h := iteT h hc_6
    refine VW.skip (thenQ_normal (VW.k4 3 9 10 11 rfl (VW.seq (VW.block (VW.q ?_)))))
    obtain ⟨c_7, hc_7, h⟩ := obind h
    obtain ⟨ob_8, cap_8, len_8, sl_8, rfl, rfl, hE_8, hl_8, hc_8, hs_8⟩ := buf_at hbp0_3 hc_7
    refine VO.t (v := .ptr ob_8 (x_2.toNat * 2 + 0)) (t_index_own rfl sl31 rfl rfl (getI_some hc_7).1 (by rw [hl_8]; exact getI_lt hc_7) rfl) rfl rfl (VO.r (v := .agg (Pr.c c_7)) (r_load_buf (n := 2) (f := 0) (j := 0) rfl sz59 rfl rfl hE_8 (map_get (getI_some hc_7).2 (Pr.c_eq c_7)) (nle rfl) (fun _ => ofCells_agg rfl)) rfl rfl (VO.w (fun v H' => ∃ ob_9, .ptr ob_9 0 = v ∧ H' = hq ([[(ob_9, .cells [.i 0, .i 0])], [(ob_8, .cells ((k_0.map Pr.c).flatten ++ sl_8))], bbu4508]) []) (w_alloc_q rfl zt59 (fun ob => ⟨ob, rfl, rfl⟩)) rfl rfl ?_))
    rintro _ _ ⟨ob_9, rfl, rfl⟩
    refine VO.w (fun v H' => .any = v ∧ H' = hq ([[(ob_9, .cells (Pr.c c_7))], [(ob_8, .cells ((k_0.map Pr.c).flatten ++ sl_8))], bbu4508]) []) (w_store_q (i := 0) rfl sz59 rfl rfl rfl rfl rfl (nle rfl) ⟨rfl, rfl⟩) rfl rfl ?_
    rintro _ _ ⟨rfl, rfl⟩
    refine VO.n (VW.k5 3 9 10 11 5 rfl (VW.q (VO.m rfl rfl (VO.t (v := .i (out_1.length : Int)) (t_len_buf rfl ⟨_, Tryd.underlying31⟩ rfl hbu4508 (by rw [List.length_map])) rfl rfl (VO.a (v := .i (out_1.length : Int)) rfl rfl (VO.n (VW.k6 3 9 10 11 5 6 rfl (VW.seq ?_))))))))
    obtain ⟨o_10, h, hx_11⟩ := obind h
    refine VW.joinQ (E := Bool × Seg × VV × Seg) (I := fun ⟨x_12, bp0_13, vbu4545, bbu4545⟩ => x_12 = o_10 ∧ Buf 2 (k_0.map Pr.c) (.own ob_8 cap_8 len_8) bp0_13 ∧ Buf 2 (out_1.map Pr.c) vbu4545 bbu4545 ∧ True) (env' := fun ⟨x_12, bp0_13, vbu4545, bbu4545⟩ => ⟨[(3, vbu4545), (9, .own ob_8 cap_8 len_8), (10, .i (k_0.length : Int)), (11, .i x_2), (5, .ptr ob_9 0), (6, .i (out_1.length : Int)), (30, .bool x_12)], []⟩) (H' := fun ⟨x_12, bp0_13, vbu4545, bbu4545⟩ => hq ([bp0_13, bbu4545, [(ob_9, .cells (Pr.c c_7))]]) []) ?_ (fun J_14 => ?_)
    · rintro ⟨x_12, bp0_13, vbu4545, bbu4545⟩ ⟨ho_, hbp0_13, hbu4545, _⟩
      subst ho_
      replace h := hx_11
      clear hx_11
      try dsimp only at h
      show VW _ _ _ _ ⟨[(3, vbu4545), (9, .own ob_8 cap_8 len_8), (10, .i (k_0.length : Int)), (11, .i x_2), (5, .ptr ob_9 0), (6, .i (out_1.length : Int)), (30, .bool x_12)], []⟩ (hq ([bp0_13, bbu4545, [(ob_9, .cells (Pr.c c_7))]]) [])
      refine VW.cond (b := x_12) rfl (fun hc_15 => ?_) (fun hc_15 => ?_)
      · replace h := iteT h hc_15
        refine VW.draw 15 mix rfl (VA.phase (g := 1) [0, 1, 2, 3, 4, 5, 6, 7, 8, 9, 10, 11, 12, 13] 14 (VP.take (i := 0) rfl (TOp.r (t_move rfl rfl)) (.inl rfl) (by kernel_rfl) (VP.take (i := 1) rfl (TOp.r (t_move rfl rfl)) (.inl rfl) (by kernel_rfl) (VP.take (i := 2) (v := .i (w64 ((out_1.length : Int) - 1))) rfl (TOp.r (t_sub rfl rfl (fun _ _ => rfl) rfl)) (.inl rfl) (by kernel_rfl) (VP.take (i := 3) rfl (TOp.r (t_move rfl rfl)) (.inl rfl) (by kernel_rfl) (VP.take (i := 4) rfl (TOp.r (t_move rfl rfl)) (.inl rfl) (by kernel_rfl) (VP.take (i := 5) (v := .i (w64 ((out_1.length : Int) - 1))) rfl (TOp.r (t_sub rfl rfl (fun _ _ => rfl) rfl)) (.inl rfl) (by kernel_rfl) ?_)))))))
        obtain ⟨c_16, hc_16, h⟩ := obind h
        obtain ⟨ob_17, cap_17, len_17, sl_17, rfl, rfl, hE_17, hl_17, hc_17, hs_17⟩ := buf_at hbu4545 hc_16
        refine VP.take (i := 6) (v := .ptr ob_17 ((w64 ((out_1.length : Int) - 1)).toNat * 2 + 0)) rfl (TOp.r (t_index_own rfl sl31 rfl rfl (getI_some hc_16).1 (by rw [hl_17]; exact getI_lt hc_16) rfl)) (.inl rfl) (by kernel_rfl) (VP.take (i := 7) (v := .ptr ob_17 ((w64 ((out_1.length : Int) - 1)).toNat * 2 + 1)) rfl (TOp.r (t_indexAddr_parr rfl ar59 rfl (fun _ _ => rfl) (by decide) (by decide) rfl)) (.inl rfl) (by kernel_rfl) (VP.take (i := 8) (v := .i c_16.x1) rfl (r_load_buf (n := 2) (f := 1) (j := 1) rfl sz3 rfl rfl hE_17 (map_get (getI_some hc_16).2 (Pr.c_eq c_16)) (nle rfl) (fun _ => rfl)) (.inl rfl) (by kernel_rfl) (VP.take (i := 9) (v := .ptr ob_9 1) rfl (TOp.r (t_indexAddr_parr rfl ar59 rfl (fun _ _ => rfl) (by decide) (by decide) rfl)) (.inl rfl) (by kernel_rfl) (VP.take (i := 10) (v := .i c_7.x1) rfl (r_load_q (i := 2) rfl sz3 rfl rfl rfl) (.inl rfl) (by kernel_rfl) (VP.take (i := 11) (v := .i (max c_16.x1 c_7.x1)) rfl (TOp.r (t_max rfl rfl rfl rfl)) (.inl rfl) (by kernel_rfl) (VP.take (i := 12) (v := .ptr ob_17 ((w64 ((out_1.length : Int) - 1)).toNat * 2 + 0)) rfl (TOp.r (t_index_own rfl sl31 rfl rfl (getI_some hc_16).1 (by rw [hl_17]; exact getI_lt hc_16) rfl)) (.inl rfl) (by kernel_rfl) (VP.take (i := 13) (v := .ptr ob_17 ((w64 ((out_1.length : Int) - 1)).toNat * 2 + 1)) rfl (TOp.r (t_indexAddr_parr rfl ar59 rfl (fun _ _ => rfl) (by decide) (by decide) rfl)) (.inl rfl) (by kernel_rfl) (VP.done (by kernel_rfl) (VA.w (i := 14) (fun v H' => .any = v ∧ H' = hq ([bp0_13, [(ob_17, .cells (((out_1.set (w64 ((out_1.length : Int) - 1)).toNat (Pr.mk c_16.x0 (max c_16.x1 c_7.x1))).map Pr.c).flatten ++ sl_17))], [(ob_9, .cells (Pr.c c_7))]]) []) rfl (w_store_buf (n := 2) (f := 1) (j := 1) rfl sz3 rfl rfl rfl hE_17 (map_get (getI_some hc_16).2 (Pr.c_eq c_16)) rfl rfl (nle rfl) rfl (map_set (Pr.c_eq (Pr.mk c_16.x0 (max c_16.x1 c_7.x1)))) ⟨rfl, rfl⟩) (.inl rfl) (by kernel_rfl) rfl ?_)))))))))
        rintro _ _ ⟨rfl, rfl⟩
        have hl_18 : len_17 = (out_1.set (w64 ((out_1.length : Int) - 1)).toNat (Pr.mk c_16.x0 (max c_16.x1 c_7.x1))).length := by simp [hl_17]
        refine VA.done (by kernel_rfl) (blockQ_normal (thenQ_normal (VW.k4 3 9 10 11 rfl (VW.hsub (A := hq ([bp0_13, [(ob_17, .cells (((out_1.set (w64 ((out_1.length : Int) - 1)).toNat (Pr.mk c_16.x0 (max c_16.x1 c_7.x1))).map Pr.c).flatten ++ sl_17))]]) []) (hq_sub (.cons_cons _ (.cons_cons _ (.cons _ .slnil))) .slnil) (VW.region (VO.t (v := .i (w64 (x_2 + 1))) (t_add rfl rfl (fun _ _ => rfl) rfl) rfl rfl (VO.m rfl rfl (VO.nil (thenQ_normal (VL.round ?_))))))))))
        refine VW.k4 3 9 10 11 rfl ?_
        exact ih _ _ _ h (.own ob_8 cap_8 len_8) bp0_13 (.own ob_17 cap_17 len_17) [(ob_17, .cells (((out_1.set (w64 ((out_1.length : Int) - 1)).toNat (Pr.mk c_16.x0 (max c_16.x1 c_7.x1))).map Pr.c).flatten ++ sl_17))] hbp0_13 (Buf.own (n := 2) (l := (out_1.set (w64 ((out_1.length : Int) - 1)).toNat (Pr.mk c_16.x0 (max c_16.x1 c_7.x1))).map Pr.c) ob_17 cap_17 len_17 sl_17 (elemsOK_map Pr.c_ok _) (by simp [hl_18]) hc_17 hs_17) hx0
      · replace h := iteF h hc_15
        refine VW.region (VO.m rfl rfl (VO.r (v := .agg (Pr.c c_7)) (r_load_q (i := 2) rfl sz59 rfl rfl rfl) rfl rfl (VO.w (fun v H' => ∃ t_19, .sl (.cap t_19 2) (([c_7]).map Pr.c) = v ∧ H' = hq ([bp0_13, bbu4545, [(ob_9, .cells (Pr.c c_7))]]) ([.cap t_19 2])) (w_buildSlice (l := [(Pr.c c_7)]) rfl el31 ⟨rfl, _, _, rfl, rfl, rfl, rfl, rfl⟩ rfl (nle rfl) (fun tk => ⟨tk, by simp only [List.map_cons, List.map_nil, Pr.c_eq], rfl⟩)) rfl rfl ?_)))
        rintro _ _ ⟨t_19, rfl, rfl⟩
        obtain ⟨_, hr_20, h⟩ := obind h
        refine VO.w (fun v H' => ∃ vbu_21 bbu_21, Buf 2 ((out_1 ++ ([c_7])).map Pr.c) vbu_21 bbu_21 ∧ vbu_21 = v ∧ H' = hq ([bbu_21, bp0_13, [(ob_9, .cells (Pr.c c_7))]]) ([.cap t_19 2])) (w_append_buf (i := 1) rfl el31 rfl rfl hbu4545 rfl (elemsOK_map Pr.c_ok _) (by have := room_some hr_20; simpa using this) (nle rfl) (fun v b hB => ⟨v, b, by simpa using hB, rfl, rfl⟩)) rfl rfl ?_
        rintro _ _ ⟨vbu_21, bbu_21, hbu_21, rfl, rfl⟩
        refine VO.a (v := vbu_21) rfl rfl (VO.nil (blockQ_normal (thenQ_normal (VW.k4 9 10 11 3 rfl (VW.hsub (A := hq ([bbu_21, bp0_13]) []) (hq_sub (.cons_cons _ (.cons_cons _ (.cons _ .slnil))) (.cons _ .slnil)) (VW.region (VO.t (v := .i (w64 (x_2 + 1))) (t_add rfl rfl (fun _ _ => rfl) rfl) rfl rfl (VO.m rfl rfl (VO.nil ?_)))))))))
        refine thenQ_normal (VL.round ?_)
        refine VW.k4 3 9 10 11 rfl (VW.frontS 0 rfl (VW.frontS 1 rfl ?_))
        exact ih _ _ _ h (.own ob_8 cap_8 len_8) bp0_13 vbu_21 bbu_21 hbp0_13 hbu_21 hx0
    · refine VW.draw 14 mix rfl (VA.t (i := 0) rfl (t_move rfl rfl) (.inl rfl) (by kernel_rfl) (VA.t (i := 1) (v := .bool (decide ((out_1.length : Int) > 0))) rfl (t_cmp rfl rfl rfl (fun _ _ => rfl) rfl) (.inl rfl) (by kernel_rfl) (VA.t (i := 2) rfl (t_move rfl rfl) (.inl rfl) (by kernel_rfl) ?_)))
      refine VA.caseB (d := 19) (b := (decide ((out_1.length : Int) > 0))) rfl (fun hc_22 => ?_) (fun hc_22 => ?_)
      · replace h := iteT h hc_22
        refine VA.phase (g := 0) [3, 4, 5, 6, 7, 8, 9, 10, 11, 12, 13] 11 (VP.take (i := 3) (v := .ptr ob_9 0) rfl (TOp.r (t_indexAddr_parr rfl ar59 rfl (fun _ _ => rfl) (by decide) (by decide) rfl)) (.inr ⟨_, _, _, rfl, rfl, rfl⟩) (by kernel_rfl) (VP.take (i := 4) (v := .i c_7.x0) rfl (r_load_q (i := 0) rfl sz3 rfl rfl rfl) (.inr ⟨_, _, _, rfl, rfl, rfl⟩) (by kernel_rfl) (VP.take (i := 5) rfl (TOp.r (t_move rfl rfl)) (.inr ⟨_, _, _, rfl, rfl, rfl⟩) (by kernel_rfl) (VP.take (i := 6) rfl (TOp.r (t_move rfl rfl)) (.inr ⟨_, _, _, rfl, rfl, rfl⟩) (by kernel_rfl) (VP.take (i := 7) (v := .i (w64 ((out_1.length : Int) - 1))) rfl (TOp.r (t_sub rfl rfl (fun _ _ => rfl) rfl)) (.inr ⟨_, _, _, rfl, rfl, rfl⟩) (by kernel_rfl) ?_)))))
        obtain ⟨c_23, hc_23, h⟩ := obind h
        obtain ⟨ob_24, cap_24, len_24, sl_24, rfl, rfl, hE_24, hl_24, hc_24, hs_24⟩ := buf_at hbu4508 hc_23
        refine VP.take (i := 8) (v := .ptr ob_24 ((w64 ((out_1.length : Int) - 1)).toNat * 2 + 0)) rfl (TOp.r (t_index_own rfl sl31 rfl rfl (getI_some hc_23).1 (by rw [hl_24]; exact getI_lt hc_23) rfl)) (.inr ⟨_, _, _, rfl, rfl, rfl⟩) (by kernel_rfl) (VP.take (i := 9) (v := .ptr ob_24 ((w64 ((out_1.length : Int) - 1)).toNat * 2 + 1)) rfl (TOp.r (t_indexAddr_parr rfl ar59 rfl (fun _ _ => rfl) (by decide) (by decide) rfl)) (.inr ⟨_, _, _, rfl, rfl, rfl⟩) (by kernel_rfl) (VP.take (i := 10) (v := .i c_23.x1) rfl (r_load_buf (n := 2) (f := 1) (j := 2) rfl sz3 rfl rfl hE_24 (map_get (getI_some hc_23).2 (Pr.c_eq c_23)) (nle rfl) (fun _ => rfl)) (.inr ⟨_, _, _, rfl, rfl, rfl⟩) (by kernel_rfl) (VP.take (i := 11) (v := .i (w64 (c_23.x1 + 1))) rfl (TOp.r (t_add rfl rfl (fun _ _ => rfl) rfl)) (.inr ⟨_, _, _, rfl, rfl, rfl⟩) (by kernel_rfl) (VP.take (i := 12) (v := .bool (decide (c_7.x0 ≤ (w64 (c_23.x1 + 1))))) rfl (TOp.r (t_cmp rfl rfl rfl rfl rfl)) (.inr ⟨_, _, _, rfl, rfl, rfl⟩) (by kernel_rfl) (VP.take (i := 13) (v := .bool (decide (c_7.x0 ≤ (w64 (c_23.x1 + 1))))) rfl (TOp.r (t_pick (b := true) rfl rfl (fun _ => rfl) (fun h => by cases h))) (.inl rfl) (by kernel_rfl) (VP.done (by kernel_rfl) (VA.subN (t' := [(3, .own ob_24 cap_24 len_24), (9, .own ob_8 cap_8 len_8), (10, .i (k_0.length : Int)), (11, .i x_2), (5, .ptr ob_9 0), (6, .i (out_1.length : Int)), (30, .bool (decide (c_7.x0 ≤ (w64 (c_23.x1 + 1)))))]) ⟨⟨_, rfl, VLe.refl _⟩, ⟨_, rfl, VLe.refl _⟩, ⟨_, rfl, VLe.refl _⟩, ⟨_, rfl, VLe.refl _⟩, ⟨_, rfl, VLe.refl _⟩, ⟨_, rfl, VLe.refl _⟩, ⟨_, rfl, VLe.refl _⟩, trivial⟩ rfl (VA.frontS 0 rfl (VA.frontS 2 rfl ?_)))))))))
        refine VA.frontS 2 rfl (VA.done (by kernel_rfl) ?_)
        exact thenQ_normal (J_14 ⟨decide (c_7.x0 ≤ (w64 (c_23.x1 + 1))), [(ob_8, .cells ((k_0.map Pr.c).flatten ++ sl_8))], (.own ob_24 cap_24 len_24), [(ob_24, .cells ((out_1.map Pr.c).flatten ++ sl_24))]⟩ ⟨Option.some.inj h, (Buf.own (n := 2) (l := k_0.map Pr.c) ob_8 cap_8 len_8 sl_8 (elemsOK_map Pr.c_ok _) (by simp [hl_8]) hc_8 hs_8), (Buf.own (n := 2) (l := out_1.map Pr.c) ob_24 cap_24 len_24 sl_24 (elemsOK_map Pr.c_ok _) (by simp [hl_24]) hc_24 hs_24), trivial⟩)
      · replace h := iteF h hc_22
        refine VA.s 3 rfl (by kernel_rfl) (VA.s 4 rfl (by kernel_rfl) (VA.s 5 rfl (by kernel_rfl) (VA.s 6 rfl (by kernel_rfl) (VA.s 7 rfl (by kernel_rfl) (VA.s 8 rfl (by kernel_rfl) (VA.s 9 rfl (by kernel_rfl) (VA.s 10 rfl (by kernel_rfl) (VA.s 11 rfl (by kernel_rfl) (VA.s 12 rfl (by kernel_rfl) ?_)))))))))
        refine VA.t (i := 13) (v := .bool false) rfl (t_pick (b := false) rfl rfl (fun h => by cases h) (fun _ => (fun _ _ => rfl))) (.inl rfl) (by kernel_rfl) (VA.subN (t' := [(3, vbu4508), (9, .own ob_8 cap_8 len_8), (10, .i (k_0.length : Int)), (11, .i x_2), (5, .ptr ob_9 0), (6, .i (out_1.length : Int)), (30, .bool false)]) ⟨⟨_, rfl, VLe.refl _⟩, ⟨_, rfl, VLe.refl _⟩, ⟨_, rfl, VLe.refl _⟩, ⟨_, rfl, VLe.refl _⟩, ⟨_, rfl, VLe.refl _⟩, ⟨_, rfl, VLe.refl _⟩, ⟨_, rfl, VLe.refl _⟩, trivial⟩ rfl (VA.frontS 0 rfl (VA.frontS 2 rfl (VA.frontS 2 rfl (VA.done (by kernel_rfl) ?_)))))
        exact thenQ_normal (J_14 ⟨false, [(ob_8, .cells ((k_0.map Pr.c).flatten ++ sl_8))], vbu4508, bbu4508⟩ ⟨Option.some.inj h, (Buf.own (n := 2) (l := k_0.map Pr.c) ob_8 cap_8 len_8 sl_8 (elemsOK_map Pr.c_ok _) (by simp [hl_8]) hc_8 hs_8), hbu4508, trivial⟩)
  · replace h := iteF h hc_6
    refine VW.k1 3 rfl (VW.exit (thenQ_exit (thenQ_exit ?_)))
    obtain rfl := oi h
    exact hx0 _ bp0_3 vbu4508 bbu4508 rfl hbp0_3 hbu4508

theorem set_tidy_ok (a0 : List Pr) (r : List Pr × List Pr) (h : PL.set_tidy a0 = some r) (v0 : VV) (b0 : Seg) (hB0 : Buf 2 (a0.map Pr.c) v0 b0) :
    VCalls Tryd.prog 39 [v0] (hq [b0] []) (fun v H => ∃ bk0, Buf 2 (r.2.map Pr.c) v0 bk0 ∧ .sl .fz (r.1.map Pr.c) = v ∧ H = hq [bk0] []) := by
  unfold PL.set_tidy at h
  refine VCalls.of_body 51 [2] Tryd.func39 rfl rfl rfl (nle rfl) (VW.k1 0 rfl (VW.q (VO.a (v := .sl .nl []) rfl (fun _ _ => .inl ⟨rfl, .inl rfl⟩) (VO.eqv (A := hq ([[], b0]) []) (.refl _) (VO.n (VW.k1 0 rfl (VW.hsub (A := hq ([b0]) []) (hq_sub (.cons _ (.cons_cons _ .slnil)) .slnil) (VW.q (VO.m rfl rfl ?_)))))))))
  obtain ⟨k_0, hx_1, h⟩ := obind h
  refine VO.w (fun v H' => ∃ bk0_2, Buf 2 (k_0.map Pr.c) v0 bk0_2 ∧ .tup [] = v ∧ H' = hq ([bk0_2]) []) (w_call_q (sa := [b0, []]) (sg := []) (tks := []) rfl fn55 rfl ⟨_, _, rfl, rfl, _, _, rfl, rfl, rfl⟩ (slices_SortFunc_2int2int_ok _ _ _ hx_1 v0 b0 56 [] [] [] hB0 fn56 (fun y0 y1 z h => set_tidy_1_ok y0 y1 z h)) (by rintro v H' ⟨bk0_2, h_3, rfl, rfl⟩; exact ⟨[bk0_2, []], rfl, bk0_2, h_3, rfl, rfl⟩)) rfl rfl ?_
  rintro _ _ ⟨bk0_2, hB_4, rfl, rfl⟩
  refine VO.n (VW.k1 0 rfl (VW.q (VO.a (v := .sl .nl []) rfl (fun _ _ => .inl ⟨rfl, .inl rfl⟩) (VO.eqv (A := hq ([[], bk0_2]) []) (.refl _) (VO.n (VW.seq (VW.q (VO.m rfl rfl (VO.t (v := .i (k_0.length : Int)) (t_len_buf rfl ⟨_, Tryd.underlying31⟩ rfl hB_4 (by rw [List.length_map])) rfl rfl ?_)))))))))
  refine VO.m (v := .i 0) rfl (fun _ _ => rfl) (VO.n (VW.k4 3 9 10 11 rfl (VW.block (VW.k4 3 9 10 11 rfl (VW.frontS 0 rfl (VW.frontS 1 rfl ?_))))))
  obtain ⟨o_5, hx_6, h⟩ := obind h
  refine VW.loopL (set_tidy.l0_ok k_0 _ _ _ hx_6 v0 bk0_2 (.sl .nl []) [] hB_4 (.nil rfl) ?_)
  · intro out_7 bp0_8 vbu4536 bbu4536 ho_ hbp0_8 hbu4536
    subst ho_
    try dsimp only at h
    refine blockQ_hit (thenQ_normal (VW.q (VO.m rfl rfl (VO.a (v := vbu4536) rfl rfl (VO.n (VW.k1 2 rfl (VW.freeze (t' := [(2, .sl .fz (out_7.map Pr.c))]) 1 rfl hbu4536 ⟨.inr ⟨rfl, rfl⟩, trivial⟩ rfl (VW.ret ?_))))))))
    obtain rfl := oi h
    exact ⟨.inr rfl, rfl, _, .sl .fz (out_7.map Pr.c), hq [bp0_8] [], rfl, VLe.refl _, hq_sub (.cons_cons _ .slnil) .slnil, bp0_8, hbp0_8, rfl, rfl⟩

theorem slices_Grow_2int2int_ok (a1 : Int) (r : List Pr) (h : PL.slices_Grow_2int2int a1 = some r) :
    VCalls Tryd.prog 58 [.sl .nl [], .i a1] (hq [[]] []) (fun v H => ∃ vr0 br0, Buf 2 (r.map Pr.c) vr0 br0 ∧ vr0 = v ∧ H = hq [br0] []) := by
  unfold PL.slices_Grow_2int2int at h
  refine VCalls.of_body 27 [4] Tryd.func58 rfl rfl rfl (nle rfl) (VW.k2 0 1 rfl (VW.q (VO.a (v := .sl .nl []) rfl (fun _ _ => .inl ⟨rfl, .inl rfl⟩) (VO.eqv (A := hq ([[], []]) []) (.refl _) (VO.n (VW.k2 0 1 rfl (VW.hsub (A := hq ([[]]) []) (hq_sub (.cons _ (.cons_cons _ .slnil)) .slnil) (VW.seq (VW.q ?_)))))))))
  refine VO.m rfl rfl (VO.t (v := .bool (decide (a1 < 0))) (t_cmp rfl rfl rfl (fun _ _ => rfl) rfl) rfl rfl (VO.n (VW.k3 0 1 6 rfl ?_)))
  refine VW.cond (b := (decide (a1 < 0))) rfl (fun hc_0 => ?_) (fun hc_0 => ?_)
  · replace h := iteT h hc_0
    cases h
  · replace h := iteF h hc_0
    refine VW.skip (thenQ_normal (VW.k2 0 1 rfl (VW.seq (VW.q (VO.m rfl rfl (VO.m rfl rfl (VO.t (v := .i 0) (t_cap_nl rfl ⟨_, Tryd.underlying31⟩ rfl) rfl rfl (VO.m rfl rfl (VO.t (v := .i 0) (t_len_buf (l := []) rfl ⟨_, Tryd.underlying31⟩ rfl (.nil (n := 1) rfl) rfl) rfl rfl ?_)))))))))
    refine VO.t (v := .i (w64 (0 - 0))) (t_sub rfl rfl rfl rfl) rfl rfl (VO.t (v := .i (w64 (a1 - (w64 (0 - 0))))) (t_sub rfl rfl rfl rfl) rfl rfl (VO.a (v := .i (w64 (a1 - (w64 (0 - 0))))) rfl rfl (VO.n (VW.k2 0 1 rfl (VW.q (VO.m rfl rfl (VO.t (v := .bool (decide ((w64 (a1 - (w64 (0 - 0)))) > 0))) (t_cmp rfl rfl rfl (fun _ _ => rfl) rfl) rfl rfl (VO.n (VW.k3 0 1 16 rfl ?_)))))))))
    obtain ⟨o_1, h, hx_2⟩ := obind h
    refine VW.joinQ (E := VV × Seg) (I := fun ⟨vbu4573, bbu4573⟩ => () = o_1 ∧ Buf 2 ([].map Pr.c) vbu4573 bbu4573 ∧ True) (env' := fun ⟨vbu4573, bbu4573⟩ => ⟨[(0, vbu4573)], []⟩) (H' := fun ⟨vbu4573, bbu4573⟩ => hq ([bbu4573]) []) ?_ (fun J_3 => ?_)
    · rintro ⟨vbu4573, bbu4573⟩ ⟨ho_, hbu4573, _⟩
      subst ho_
      replace h := hx_2
      clear hx_2
      try dsimp only at h
      show VW _ _ _ _ ⟨[(0, vbu4573)], []⟩ (hq ([bbu4573]) [])
      refine VW.q (VO.m rfl rfl (VO.a (v := vbu4573) rfl rfl (VO.n (VW.k1 4 rfl (VW.ret ?_)))))
      obtain rfl := oi h
      exact ⟨.inr rfl, rfl, _, vbu4573, hq [bbu4573] [], rfl, VLe.refl _, hq_sub (.cons_cons _ .slnil) .slnil, vbu4573, bbu4573, hbu4573, rfl, rfl⟩
    · refine VW.cond (b := (decide ((w64 (a1 - (w64 (0 - 0)))) > 0))) rfl (fun hc_4 => ?_) (fun hc_4 => ?_)
      · replace h := iteT h hc_4
        refine VW.region (VO.m rfl rfl (VO.m rfl rfl (VO.t (v := .i 0) (t_cap_nl rfl ⟨_, Tryd.underlying31⟩ rfl) rfl rfl (VO.t (v := (.sl .nl [])) (t_slice_nl rfl sl31 rfl ⟨_, rfl⟩) rfl rfl (VO.m rfl rfl ?_)))))
        obtain ⟨ha_5, h⟩ := ite_some h
        obtain ⟨_, hb_6, h⟩ := obind h
        refine VO.w (fun v H' => ∃ vbu_7 bbu_7, Buf 2 ((List.replicate (w64 (a1 - (w64 (0 - 0)))).toNat (Pr.mk 0 0)).map Pr.c) vbu_7 bbu_7 ∧ vbu_7 = v ∧ H' = hq ([bbu_7]) []) (w_append_zeros (sg := []) (tks := []) rfl mk31 Tryd.underlying3 ⟨rfl, rfl⟩ rfl rfl ha_5 (room_some hb_6) (nle rfl) (fun v b hB => ⟨v, b, by rw [List.map_replicate]; exact hB, rfl, rfl⟩)) rfl rfl ?_
        rintro _ _ ⟨vbu_7, bbu_7, hbu_7, rfl, rfl⟩
        refine VO.m rfl rfl (VO.t (v := .i 0) (t_len_buf (l := []) rfl ⟨_, Tryd.underlying31⟩ rfl (.nil (n := 1) rfl) rfl) rfl rfl ?_)
        obtain ⟨ha_8, h⟩ := ite_some h
        obtain ⟨hb_9, h⟩ := ite_some h
        refine VO.slice_buf (m := (List.replicate (w64 (a1 - (w64 (0 - 0)))).toNat (Pr.mk 0 0)).map Pr.c) (k := 0) rfl sl31 rfl ⟨_, rfl⟩ hbu_7 ha_8 (by simpa using hb_9) rfl rfl ?_
        intro vbu_10 hbu_10
        have hbu_10 : Buf 2 ([].map Pr.c) vbu_10 bbu_7 := by simpa [List.map_take] using hbu_10
        refine VO.a (v := vbu_10) rfl rfl (VO.subK (.c 0 rfl .n) rfl (VO.nil ?_))
        exact thenQ_normal (J_3 ⟨vbu_10, bbu_7⟩ ⟨Option.some.inj h, hbu_10, trivial⟩)
      · replace h := iteF h hc_4
        refine VW.k1 0 rfl (VW.skip ?_)
        exact thenQ_normal (J_3 ⟨(.sl .nl []), []⟩ ⟨Option.some.inj h, (.nil rfl), trivial⟩)

theorem slices_Concat_2int2int.l0_ok (a0 : List (List Pr)) {Q : Exit → Env → HH → Prop} :
    ∀ (size_0 : Int) (x_1 : Int) (o : Int), PL.slices_Concat_2int2int.l0 a0 size_0 x_1 = some o →
    ∀ (hx0 : ∀ (size_2 : Int), size_2 = o → Q (.exit 0) ⟨[(0, .sl .fz (a0.map (cSl Pr.c))), (3, .i size_2)], []⟩ (hq [] [])), VW Tryd.prog 36 (codeAt [1, 1, 0, 1, 0, 0] (bodyOf Tryd.f40)) (thenQ (VL Tryd.prog 36 (codeAt [1, 1, 0, 1, 0, 0] (bodyOf Tryd.f40)) Q) Q) ⟨[(0, .sl .fz (a0.map (cSl Pr.c))), (3, .i size_0), (9, .sl .fz (a0.map (cSl Pr.c))), (10, .i (a0.length : Int)), (11, .i x_1)], []⟩ (hq [] []) := by
  refine PL.slices_Concat_2int2int.l0.partial_correctness a0 (motive := fun size_0 x_1 o => ∀ (hx0 : ∀ (size_2 : Int), size_2 = o → Q (.exit 0) ⟨[(0, .sl .fz (a0.map (cSl Pr.c))), (3, .i size_2)], []⟩ (hq [] [])), VW Tryd.prog 36 (codeAt [1, 1, 0, 1, 0, 0] (bodyOf Tryd.f40)) (thenQ (VL Tryd.prog 36 (codeAt [1, 1, 0, 1, 0, 0] (bodyOf Tryd.f40)) Q) Q) ⟨[(0, .sl .fz (a0.map (cSl Pr.c))), (3, .i size_0), (9, .sl .fz (a0.map (cSl Pr.c))), (10, .i (a0.length : Int)), (11, .i x_1)], []⟩ (hq [] [])) ?_
  intro _ ih size_0 x_1 o h hx0
  refine VW.q (VO.t (v := .bool (decide (x_1 < (a0.length : Int)))) (t_cmp rfl rfl rfl rfl rfl) rfl rfl (VO.n (VW.seq ?_)))
  refine VW.cond (b := (decide (x_1 < (a0.length : Int)))) rfl (fun hc_3 => ?_) (fun hc_3 => ?_)
  · replace h := iteT h hc_3
    refine VW.skip (thenQ_normal (VW.k5 0 3 9 10 11 rfl (VW.seq (VW.block (VW.q ?_)))))
    obtain ⟨c_4, hc_4, h⟩ := obind h
    refine VO.t (v := .vptr [.sl .fz (c_4.map Pr.c)]) (t_indexAddr rfl sl75 rfl rfl (getI_some hc_4).1 (map_get (getI_some hc_4).2 rfl) rfl) rfl rfl (VO.r (v := .sl .fz (c_4.map Pr.c)) (r_load_v rfl sz31 rfl rfl) rfl rfl (VO.a (v := .sl .fz (c_4.map Pr.c)) rfl rfl (VO.n (VW.k6 0 3 9 10 11 5 rfl (VW.q (VO.m rfl rfl (VO.m rfl rfl (VO.t (v := .i (c_4.length : Int)) (t_len rfl ⟨_, Tryd.underlying31⟩ rfl (by rw [List.length_map])) rfl rfl (VO.t (v := .i (w64 (size_0 + (c_4.length : Int)))) (t_add rfl rfl rfl rfl) rfl rfl ?_)))))))))
    refine VO.a (v := .i (w64 (size_0 + (c_4.length : Int)))) rfl rfl (VO.n (VW.k5 0 9 10 11 3 rfl (VW.q (VO.m rfl rfl (VO.t (v := .bool (decide ((w64 (size_0 + (c_4.length : Int))) < 0))) (t_cmp rfl rfl rfl (fun _ _ => rfl) rfl) rfl rfl (VO.n (VW.k6 0 9 10 11 3 20 rfl ?_)))))))
    refine VW.cond (b := (decide ((w64 (size_0 + (c_4.length : Int))) < 0))) rfl (fun hc_5 => ?_) (fun hc_5 => ?_)
    · replace h := iteT h hc_5
      cases h
    · replace h := iteF h hc_5
      refine VW.skip (blockQ_normal (thenQ_normal (VW.k5 0 9 10 11 3 rfl (VW.region (VO.t (v := .i (w64 (x_1 + 1))) (t_add rfl rfl (fun _ _ => rfl) rfl) rfl rfl (VO.m rfl rfl (VO.nil (thenQ_normal (VL.round ?_)))))))))
      refine VW.k5 0 3 9 10 11 rfl ?_
      exact ih _ _ _ h hx0
  · replace h := iteF h hc_3
    refine VW.k2 0 3 rfl (VW.exit (thenQ_exit (thenQ_exit ?_)))
    obtain rfl := oi h
    exact hx0 _ rfl

theorem slices_Concat_2int2int.l1_ok (a0 : List (List Pr)) {Q : Exit → Env → HH → Prop} :
    ∀ (newslice_0 : List Pr) (x_1 : Int) (o : (List Pr)), PL.slices_Concat_2int2int.l1 a0 newslice_0 x_1 = some o →
    ∀ (vbu4655 : VV) (bbu4655 : Seg) (hbu4655 : Buf 2 (newslice_0.map Pr.c) vbu4655 bbu4655) (hx0 : ∀ (newslice_2 : List Pr) (vbu4662 : VV) (bbu4662 : Seg), newslice_2 = o → Buf 2 (newslice_2.map Pr.c) vbu4662 bbu4662 → Q (.exit 2) ⟨[(6, vbu4662)], []⟩ (hq ([bbu4662]) [])), VW Tryd.prog 36 (codeAt [1, 1, 1, 1, 0, 1, 0, 0] (bodyOf Tryd.f40)) (thenQ (VL Tryd.prog 36 (codeAt [1, 1, 1, 1, 0, 1, 0, 0] (bodyOf Tryd.f40)) Q) Q) ⟨[(6, vbu4655), (25, .sl .fz (a0.map (cSl Pr.c))), (26, .i (a0.length : Int)), (27, .i x_1)], []⟩ (hq ([bbu4655]) []) := by
  refine PL.slices_Concat_2int2int.l1.partial_correctness a0 (motive := fun newslice_0 x_1 o => ∀ (vbu4655 : VV) (bbu4655 : Seg) (hbu4655 : Buf 2 (newslice_0.map Pr.c) vbu4655 bbu4655) (hx0 : ∀ (newslice_2 : List Pr) (vbu4662 : VV) (bbu4662 : Seg), newslice_2 = o → Buf 2 (newslice_2.map Pr.c) vbu4662 bbu4662 → Q (.exit 2) ⟨[(6, vbu4662)], []⟩ (hq ([bbu4662]) [])), VW Tryd.prog 36 (codeAt [1, 1, 1, 1, 0, 1, 0, 0] (bodyOf Tryd.f40)) (thenQ (VL Tryd.prog 36 (codeAt [1, 1, 1, 1, 0, 1, 0, 0] (bodyOf Tryd.f40)) Q) Q) ⟨[(6, vbu4655), (25, .sl .fz (a0.map (cSl Pr.c))), (26, .i (a0.length : Int)), (27, .i x_1)], []⟩ (hq ([bbu4655]) [])) ?_
  intro _ ih newslice_0 x_1 o h vbu4655 bbu4655 hbu4655 hx0
  refine VW.q (VO.t (v := .bool (decide (x_1 < (a0.length : Int)))) (t_cmp rfl rfl rfl rfl rfl) rfl rfl (VO.n (VW.seq ?_)))
  refine VW.cond (b := (decide (x_1 < (a0.length : Int)))) rfl (fun hc_3 => ?_) (fun hc_3 => ?_)
  · replace h := iteT h hc_3
    refine VW.skip (thenQ_normal (VW.k4 6 25 26 27 rfl (VW.seq (VW.block (VW.q ?_)))))
    obtain ⟨c_4, hc_4, h⟩ := obind h
    refine VO.t (v := .vptr [.sl .fz (c_4.map Pr.c)]) (t_indexAddr rfl sl75 rfl rfl (getI_some hc_4).1 (map_get (getI_some hc_4).2 rfl) rfl) rfl rfl (VO.r (v := .sl .fz (c_4.map Pr.c)) (r_load_v rfl sz31 rfl rfl) rfl rfl (VO.a (v := .sl .fz (c_4.map Pr.c)) rfl rfl (VO.n (VW.k5 6 25 26 27 8 rfl (VW.region (VO.m rfl rfl (VO.m rfl rfl ?_)))))))
    obtain ⟨_, hr_5, h⟩ := obind h
    refine VO.w (fun v H' => ∃ vbu_6 bbu_6, Buf 2 ((newslice_0 ++ c_4).map Pr.c) vbu_6 bbu_6 ∧ vbu_6 = v ∧ H' = hq ([bbu_6]) []) (w_append_buf (i := 0) rfl el31 rfl rfl hbu4655 rfl (elemsOK_map Pr.c_ok _) (by have := room_some hr_5; simpa using this) (nle rfl) (fun v b hB => ⟨v, b, by simpa using hB, rfl, rfl⟩)) rfl rfl ?_
    rintro _ _ ⟨vbu_6, bbu_6, hbu_6, rfl, rfl⟩
    refine VO.a (v := vbu_6) rfl rfl (VO.nil (blockQ_normal (thenQ_normal (VW.k4 25 26 27 6 rfl (VW.region (VO.t (v := .i (w64 (x_1 + 1))) (t_add rfl rfl (fun _ _ => rfl) rfl) rfl rfl (VO.m rfl rfl (VO.nil (thenQ_normal (VL.round ?_))))))))))
    refine VW.k4 6 25 26 27 rfl ?_
    exact ih _ _ _ h vbu_6 bbu_6 hbu_6 hx0
  · replace h := iteF h hc_3
    refine VW.k1 6 rfl (VW.exit (thenQ_exit (thenQ_exit ?_)))
    obtain rfl := oi h
    exact hx0 _ vbu4655 bbu4655 rfl hbu4655

theorem slices_Concat_2int2int_ok (a0 : List (List Pr)) (r : List Pr) (h : PL.slices_Concat_2int2int a0 = some r) :
    VCalls Tryd.prog 40 [.sl .fz (a0.map (cSl Pr.c))] (hq [] []) (fun v H => ∃ vr0 br0, Buf 2 (r.map Pr.c) vr0 br0 ∧ vr0 = v ∧ H = hq [br0] []) := by
  unfold PL.slices_Concat_2int2int at h
  refine VCalls.of_body 36 [2] Tryd.func40 rfl rfl rfl (nle rfl) (VW.k1 0 rfl (VW.q (VO.a (v := .sl .nl []) rfl (fun _ _ => .inl ⟨rfl, .inl rfl⟩) (VO.eqv (A := hq ([[]]) []) (.refl _) (VO.n (VW.k1 0 rfl (VW.hsub (A := hq [] []) (hq_sub (.cons _ .slnil) .slnil) (VW.q (VO.a (v := .i 0) rfl (fun _ _ => rfl) ?_)))))))))
  refine VO.n (VW.seq (VW.q (VO.m rfl rfl (VO.t (v := .i (a0.length : Int)) (t_len rfl ⟨_, Tryd.underlying75⟩ rfl (by rw [List.length_map])) rfl rfl (VO.m (v := .i 0) rfl (fun _ _ => rfl) (VO.n (VW.block (VW.k5 0 3 9 10 11 rfl ?_))))))))
  obtain ⟨o_0, hx_1, h⟩ := obind h
  refine VW.loopL (slices_Concat_2int2int.l0_ok a0 _ _ _ hx_1 ?_)
  · intro size_2 ho_
    subst ho_
    try dsimp only at h
    refine blockQ_hit (thenQ_normal (VW.q (VO.m rfl rfl ?_)))
    obtain ⟨rv_3, hx_4, h⟩ := obind h
    refine VO.w (fun v H' => ∃ vr0_5 br0_6, Buf 2 (rv_3.map Pr.c) vr0_5 br0_6 ∧ vr0_5 = v ∧ H' = hq ([br0_6]) []) (w_call_q (sa := [[]]) (sg := []) (tks := []) rfl fn58 rfl ⟨.sl .nl [], _, rfl, (fun _ _ => .inl ⟨rfl, .inl rfl⟩), _, _, rfl, rfl, rfl⟩ (slices_Grow_2int2int_ok _ _ hx_4) (by rintro v H' ⟨vr0_5, br0_6, h_7, rfl, rfl⟩; exact ⟨[br0_6, []], rfl, vr0_5, br0_6, h_7, rfl, rfl⟩)) rfl rfl ?_
    rintro _ _ ⟨vr0_5, br0_6, hB_8, rfl, rfl⟩
    refine VO.a (v := vr0_5) rfl rfl (VO.n (VW.k2 0 6 rfl (VW.seq (VW.q (VO.m rfl rfl (VO.t (v := .i (a0.length : Int)) (t_len rfl ⟨_, Tryd.underlying75⟩ rfl (by rw [List.length_map])) rfl rfl (VO.m (v := .i 0) rfl (fun _ _ => rfl) (VO.n (VW.k4 6 25 26 27 rfl ?_)))))))))
    refine VW.block (VW.k4 6 25 26 27 rfl ?_)
    obtain ⟨o_9, hx_10, h⟩ := obind h
    refine VW.loopL (slices_Concat_2int2int.l1_ok a0 _ _ _ hx_10 vr0_5 br0_6 hB_8 ?_)
    · intro newslice_11 vbu4662 bbu4662 ho_ hbu4662
      subst ho_
      try dsimp only at h
      refine blockQ_hit (thenQ_normal (VW.q (VO.m rfl rfl (VO.a (v := vbu4662) rfl rfl (VO.n (VW.k1 2 rfl (VW.ret ?_)))))))
      obtain rfl := oi h
      exact ⟨.inr rfl, rfl, _, vbu4662, hq [bbu4662] [], rfl, VLe.refl _, hq_sub (.cons_cons _ .slnil) .slnil, vbu4662, bbu4662, hbu4662, rfl, rfl⟩

theorem set_common.l0_ok (a0 : List Pr) (a1 : List Pr) {Q : Exit → Env → HH → Prop} :
    ∀ (out_0 : List Pr) (i_1 : Int) (j_2 : Int) (o : (List Pr)), PL.set_common.l0 a0 a1 out_0 i_1 j_2 = some o →
    ∀ (tk_3 : Tok) (hg_4 : Tok.grow tk_3 2 (out_0.map Pr.c)) (hx0 : ∀ (out_5 : List Pr) (tk_6 : Tok), out_5 = o → Tok.grow tk_6 2 (out_5.map Pr.c) → Q (.exit 0) ⟨[(5, .sl tk_6 (out_5.map Pr.c))], []⟩ (hq [] ([tk_6]))), VW Tryd.prog 67 (codeAt [1, 1, 0, 1, 0, 0] (bodyOf Tryd.f41)) (thenQ (VL Tryd.prog 67 (codeAt [1, 1, 0, 1, 0, 0] (bodyOf Tryd.f41)) Q) Q) ⟨[(0, .sl .fz (a0.map Pr.c)), (1, .sl .fz (a1.map Pr.c)), (5, .sl tk_3 (out_0.map Pr.c)), (6, .i i_1), (7, .i j_2)], []⟩ (hq [] ([tk_3])) := by
  refine PL.set_common.l0.partial_correctness a0 a1 (motive := fun out_0 i_1 j_2 o => ∀ (tk_3 : Tok) (hg_4 : Tok.grow tk_3 2 (out_0.map Pr.c)) (hx0 : ∀ (out_5 : List Pr) (tk_6 : Tok), out_5 = o → Tok.grow tk_6 2 (out_5.map Pr.c) → Q (.exit 0) ⟨[(5, .sl tk_6 (out_5.map Pr.c))], []⟩ (hq [] ([tk_6]))), VW Tryd.prog 67 (codeAt [1, 1, 0, 1, 0, 0] (bodyOf Tryd.f41)) (thenQ (VL Tryd.prog 67 (codeAt [1, 1, 0, 1, 0, 0] (bodyOf Tryd.f41)) Q) Q) ⟨[(0, .sl .fz (a0.map Pr.c)), (1, .sl .fz (a1.map Pr.c)), (5, .sl tk_3 (out_0.map Pr.c)), (6, .i i_1), (7, .i j_2)], []⟩ (hq [] ([tk_3]))) ?_
  intro _ ih out_0 i_1 j_2 o h tk_3 hg_4 hx0
  refine VW.seq (VW.q (VO.m rfl rfl (VO.m rfl rfl (VO.t (v := .i (a0.length : Int)) (t_len rfl ⟨_, Tryd.underlying31⟩ rfl (by rw [List.length_map])) rfl rfl (VO.t (v := .bool (decide (i_1 < (a0.length : Int)))) (t_cmp rfl rfl rfl rfl rfl) rfl rfl (VO.m rfl rfl ?_))))))
  refine VO.caseB (d := 14) (b := (decide (i_1 < (a0.length : Int)))) rfl (fun hc_7 => ?_) (fun hc_7 => ?_)
  · replace h := iteT h hc_7
    refine VO.gt (v := .i j_2) (t_move rfl rfl) rfl rfl rfl rfl (VO.gt (v := .sl .fz (a1.map Pr.c)) (t_move rfl rfl) rfl rfl rfl rfl (VO.gt (v := .i (a1.length : Int)) (t_len rfl ⟨_, Tryd.underlying31⟩ rfl (by rw [List.length_map])) rfl rfl rfl rfl (VO.gt (v := .bool (decide (j_2 < (a1.length : Int)))) (t_cmp rfl rfl rfl rfl rfl) rfl rfl rfl rfl (VO.t (v := .bool (decide (j_2 < (a1.length : Int)))) (t_pick (b := true) rfl rfl (fun _ => rfl) (fun h => by cases h)) rfl rfl (VO.n (VW.subK (.c 0 rfl (.c 1 rfl (.c 5 rfl (.c 6 rfl (.c 7 rfl (.c 15 rfl (.c 16 rfl (.c 17 rfl (.c 18 rfl (.c 19 rfl .n)))))))))) rfl ?_))))))
    refine VW.cond (b := (decide (j_2 < (a1.length : Int)))) rfl (fun hc_8 => ?_) (fun hc_8 => ?_)
    · replace h := iteT h hc_8
      refine VW.skip (thenQ_normal (VW.subK (.c 0 rfl (.c 1 rfl (.c 5 rfl (.c 6 rfl (.c 7 rfl (.c 15 rfl (.c 16 rfl (.c 17 rfl (.c 18 rfl .n))))))))) rfl (VW.block (VW.seq (VW.seq (VW.draw 24 mix rfl (VA.phase (g := 0) [0, 1, 2, 3, 4, 5, 6, 7, 8, 9, 10, 11, 12, 13, 14, 15, 16, 17, 18, 19, 20, 21, 22, 23] 24 (VP.take (i := 0) rfl (TOp.r (t_move rfl rfl)) (.inl rfl) (by kernel_rfl) (VP.take (i := 1) rfl (TOp.r (t_move rfl rfl)) (.inl rfl) (by kernel_rfl) ?_)))))))))
      obtain ⟨c_9, hc_9, h⟩ := obind h
      refine VP.take (i := 2) (v := .vptr (Pr.c c_9)) rfl (TOp.r (t_indexAddr rfl sl31 rfl rfl (getI_some hc_9).1 (map_get (getI_some hc_9).2 (Pr.c_eq c_9)) rfl)) (.inl rfl) (by kernel_rfl) (VP.take (i := 3) (v := .vptr (Pr.c c_9)) rfl (TOp.r (t_indexAddr_arr rfl ar59 rfl (fun _ _ => rfl) (by decide) (by decide) rfl)) (.inl rfl) (by kernel_rfl) (VP.take (i := 4) (v := .i c_9.x0) rfl (r_load_v rfl sz3 rfl rfl) (.inl rfl) (by kernel_rfl) (VP.take (i := 5) rfl (TOp.r (t_move rfl rfl)) (.inl rfl) (by kernel_rfl) (VP.take (i := 6) rfl (TOp.r (t_move rfl rfl)) (.inl rfl) (by kernel_rfl) ?_))))
      obtain ⟨c_10, hc_10, h⟩ := obind h
      refine VP.take (i := 7) (v := .vptr (Pr.c c_10)) rfl (TOp.r (t_indexAddr rfl sl31 rfl rfl (getI_some hc_10).1 (map_get (getI_some hc_10).2 (Pr.c_eq c_10)) rfl)) (.inl rfl) (by kernel_rfl) (VP.take (i := 8) (v := .vptr (Pr.c c_10)) rfl (TOp.r (t_indexAddr_arr rfl ar59 rfl (fun _ _ => rfl) (by decide) (by decide) rfl)) (.inl rfl) (by kernel_rfl) (VP.take (i := 9) (v := .i c_10.x0) rfl (r_load_v rfl sz3 rfl rfl) (.inl rfl) (by kernel_rfl) (VP.take (i := 10) (v := .i (max c_9.x0 c_10.x0)) rfl (TOp.r (t_max rfl rfl rfl rfl)) (.inl rfl) (by kernel_rfl) (VP.take (i := 11) rfl (TOp.r (t_move rfl rfl)) (.inl rfl) (by kernel_rfl) (VP.take (i := 12) rfl (TOp.r (t_move rfl rfl)) (.inl rfl) (by kernel_rfl) (VP.take (i := 13) (v := .vptr (Pr.c c_9)) rfl (TOp.r (t_indexAddr rfl sl31 rfl rfl (getI_some hc_9).1 (map_get (getI_some hc_9).2 (Pr.c_eq c_9)) rfl)) (.inl rfl) (by kernel_rfl) (VP.take (i := 14) (v := .vptr [.i c_9.x1]) rfl (TOp.r (t_indexAddr_arr rfl ar59 rfl (fun _ _ => rfl) (by decide) (by decide) rfl)) (.inl rfl) (by kernel_rfl) (VP.take (i := 15) (v := .i c_9.x1) rfl (r_load_v rfl sz3 rfl rfl) (.inl rfl) (by kernel_rfl) (VP.take (i := 16) rfl (TOp.r (t_move rfl rfl)) (.inl rfl) (by kernel_rfl) ?_)))))))))
      refine VP.take (i := 17) rfl (TOp.r (t_move rfl rfl)) (.inl rfl) (by kernel_rfl) (VP.take (i := 18) (v := .vptr (Pr.c c_10)) rfl (TOp.r (t_indexAddr rfl sl31 rfl rfl (getI_some hc_10).1 (map_get (getI_some hc_10).2 (Pr.c_eq c_10)) rfl)) (.inl rfl) (by kernel_rfl) (VP.take (i := 19) (v := .vptr [.i c_10.x1]) rfl (TOp.r (t_indexAddr_arr rfl ar59 rfl (fun _ _ => rfl) (by decide) (by decide) rfl)) (.inl rfl) (by kernel_rfl) (VP.take (i := 20) (v := .i c_10.x1) rfl (r_load_v rfl sz3 rfl rfl) (.inl rfl) (by kernel_rfl) (VP.take (i := 21) (v := .i (min c_9.x1 c_10.x1)) rfl (TOp.r (t_min rfl rfl rfl rfl)) (.inl rfl) (by kernel_rfl) (VP.take (i := 22) (v := .i (max c_9.x0 c_10.x0)) rfl (TOp.r (t_assign rfl rfl)) (.inl rfl) (by kernel_rfl) (VP.take (i := 23) (v := .i (min c_9.x1 c_10.x1)) rfl (TOp.r (t_assign rfl rfl)) (.inl rfl) (by kernel_rfl) (VP.done (by kernel_rfl) (VA.done (by kernel_rfl) (thenQ_normal ?_)))))))))
      refine VW.subK (.c 0 rfl (.c 1 rfl (.c 5 rfl (.c 6 rfl (.c 7 rfl (.c 15 rfl (.c 16 rfl (.c 17 rfl (.c 18 rfl (.c 8 rfl (.c 9 rfl .n))))))))))) rfl (VW.q (VO.m rfl rfl (VO.m rfl rfl (VO.t (v := .bool (decide ((max c_9.x0 c_10.x0) ≤ (min c_9.x1 c_10.x1)))) (t_cmp rfl rfl rfl rfl rfl) rfl rfl (VO.n (VW.subK (.c 0 rfl (.c 1 rfl (.c 5 rfl (.c 6 rfl (.c 7 rfl (.c 15 rfl (.c 16 rfl (.c 17 rfl (.c 18 rfl (.c 8 rfl (.c 9 rfl (.c 44 rfl .n)))))))))))) rfl ?_))))))
      obtain ⟨o_11, h, hx_12⟩ := obind h
      refine VW.joinQ (E := List Pr × Tok) (I := fun ⟨out_13, tk_14⟩ => out_13 = o_11 ∧ Tok.grow tk_14 2 (out_13.map Pr.c) ∧ True) (env' := fun ⟨out_13, tk_14⟩ => ⟨[(0, .sl .fz (a0.map Pr.c)), (1, .sl .fz (a1.map Pr.c)), (6, .i i_1), (7, .i j_2), (15, .i j_2), (16, .sl .fz (a1.map Pr.c)), (17, .i (a1.length : Int)), (18, .bool (decide (j_2 < (a1.length : Int)))), (5, .sl tk_14 (out_13.map Pr.c))], []⟩) (H' := fun ⟨out_13, tk_14⟩ => hq [] ([tk_14])) ?_ (fun J_15 => ?_)
      · rintro ⟨out_13, tk_14⟩ ⟨ho_, hg_16, _⟩
        subst ho_
        replace h := hx_12
        clear hx_12
        try dsimp only at h
        show VW _ _ _ _ ⟨[(0, .sl .fz (a0.map Pr.c)), (1, .sl .fz (a1.map Pr.c)), (6, .i i_1), (7, .i j_2), (15, .i j_2), (16, .sl .fz (a1.map Pr.c)), (17, .i (a1.length : Int)), (18, .bool (decide (j_2 < (a1.length : Int)))), (5, .sl tk_14 (out_13.map Pr.c))], []⟩ (hq [] ([tk_14]))
        refine VW.seq (VW.draw 11 mix rfl (VA.phase (g := 0) [0, 1, 2, 3, 4, 5, 6, 7, 8, 9, 10] 11 (VP.take (i := 0) rfl (TOp.r (t_move rfl rfl)) (.inl rfl) (by kernel_rfl) (VP.take (i := 1) rfl (TOp.r (t_move rfl rfl)) (.inl rfl) (by kernel_rfl) (VP.take (i := 2) (v := .vptr (Pr.c c_9)) rfl (TOp.r (t_indexAddr rfl sl31 rfl rfl (getI_some hc_9).1 (map_get (getI_some hc_9).2 (Pr.c_eq c_9)) rfl)) (.inl rfl) (by kernel_rfl) (VP.take (i := 3) (v := .vptr [.i c_9.x1]) rfl (TOp.r (t_indexAddr_arr rfl ar59 rfl (fun _ _ => rfl) (by decide) (by decide) rfl)) (.inl rfl) (by kernel_rfl) (VP.take (i := 4) (v := .i c_9.x1) rfl (r_load_v rfl sz3 rfl rfl) (.inl rfl) (by kernel_rfl) (VP.take (i := 5) rfl (TOp.r (t_move rfl rfl)) (.inl rfl) (by kernel_rfl) (VP.take (i := 6) rfl (TOp.r (t_move rfl rfl)) (.inl rfl) (by kernel_rfl) ?_)))))))))
        refine VP.take (i := 7) (v := .vptr (Pr.c c_10)) rfl (TOp.r (t_indexAddr rfl sl31 rfl rfl (getI_some hc_10).1 (map_get (getI_some hc_10).2 (Pr.c_eq c_10)) rfl)) (.inl rfl) (by kernel_rfl) (VP.take (i := 8) (v := .vptr [.i c_10.x1]) rfl (TOp.r (t_indexAddr_arr rfl ar59 rfl (fun _ _ => rfl) (by decide) (by decide) rfl)) (.inl rfl) (by kernel_rfl) (VP.take (i := 9) (v := .i c_10.x1) rfl (r_load_v rfl sz3 rfl rfl) (.inl rfl) (by kernel_rfl) (VP.take (i := 10) (v := .bool (decide (c_9.x1 < c_10.x1))) rfl (TOp.r (t_cmp rfl rfl rfl rfl rfl)) (.inl rfl) (by kernel_rfl) (VP.done (by kernel_rfl) (VA.done (by kernel_rfl) (thenQ_normal (VW.subK (.c 0 rfl (.c 1 rfl (.c 6 rfl (.c 7 rfl (.c 15 rfl (.c 16 rfl (.c 17 rfl (.c 18 rfl (.c 5 rfl (.c 61 rfl .n)))))))))) rfl ?_)))))))
        refine VW.cond (b := (decide (c_9.x1 < c_10.x1))) rfl (fun hc_17 => ?_) (fun hc_17 => ?_)
        · replace h := iteT h hc_17
          refine VW.region (VO.m rfl rfl (VO.t (v := .i (w64 (i_1 + 1))) (t_add rfl rfl (fun _ _ => rfl) rfl) rfl rfl (VO.a (v := .i (w64 (i_1 + 1))) rfl rfl (VO.nil (blockQ_normal (thenQ_normal (VL.round ?_)))))))
          refine VW.k5 0 1 5 6 7 rfl ?_
          exact ih _ _ _ _ h tk_14 hg_16 hx0
        · replace h := iteF h hc_17
          refine VW.region (VO.m rfl rfl (VO.t (v := .i (w64 (j_2 + 1))) (t_add rfl rfl (fun _ _ => rfl) rfl) rfl rfl (VO.a (v := .i (w64 (j_2 + 1))) rfl rfl (VO.nil (blockQ_normal (thenQ_normal (VL.round ?_)))))))
          refine VW.k5 0 1 5 6 7 rfl ?_
          exact ih _ _ _ _ h tk_14 hg_16 hx0
      · refine VW.cond (b := (decide ((max c_9.x0 c_10.x0) ≤ (min c_9.x1 c_10.x1)))) rfl (fun hc_18 => ?_) (fun hc_18 => ?_)
        · replace h := iteT h hc_18
          refine VW.region (VO.m rfl rfl (VO.m rfl rfl (VO.m rfl rfl (VO.t (v := .agg [.i (max c_9.x0 c_10.x0), .i (min c_9.x1 c_10.x1)]) (t_build_arr rfl av59 ⟨_, _, rfl, rfl, rfl, _, _, rfl, rfl, rfl, rfl⟩ rfl) rfl rfl (VO.w (fun v H' => ∃ t_19, .sl (.cap t_19 2) (([Pr.mk (max c_9.x0 c_10.x0) (min c_9.x1 c_10.x1)]).map Pr.c) = v ∧ H' = hq [] ([.cap t_19 2, tk_3])) (w_buildSlice (l := [[.i (max c_9.x0 c_10.x0), .i (min c_9.x1 c_10.x1)]]) rfl el31 ⟨rfl, _, _, rfl, rfl, rfl, rfl, rfl⟩ rfl (nle rfl) (fun tk => ⟨tk, by simp only [List.map_cons, List.map_nil, Pr.c_eq], rfl⟩)) rfl rfl ?_)))))
          rintro _ _ ⟨t_19, rfl, rfl⟩
          obtain ⟨_, hr_20, h⟩ := obind h
          refine VO.w (fun v H' => ∃ t_21, .sl (.cap t_21 2) ((out_0 ++ ([Pr.mk (max c_9.x0 c_10.x0) (min c_9.x1 c_10.x1)])).map Pr.c) = v ∧ H' = hq [] ([.cap t_21 2, .cap t_19 2])) (w_append (objs := List.flatten []) (tks := [.cap t_19 2, tk_3]) (i := 1) rfl el31 rfl rfl hg_4 rfl (elemsOK_map Pr.c_ok _) (by have := room_some hr_20; simpa using this) (nle rfl) (fun t => ⟨t, by simp only [List.map_append, List.map_nil, List.nil_append], rfl⟩)) rfl rfl ?_
          rintro _ _ ⟨t_21, rfl, rfl⟩
          refine VO.a (v := .sl (.cap t_21 2) ((out_0 ++ ([Pr.mk (max c_9.x0 c_10.x0) (min c_9.x1 c_10.x1)])).map Pr.c)) rfl rfl (VO.subK (.c 0 rfl (.c 1 rfl (.c 6 rfl (.c 7 rfl (.c 15 rfl (.c 16 rfl (.c 17 rfl (.c 18 rfl (.c 5 rfl .n))))))))) rfl (VO.hsub (A := hq [] ([.cap t_21 2])) (hq_sub .slnil (.cons_cons _ (.cons _ .slnil))) (VO.nil ?_)))
          exact thenQ_normal (J_15 ⟨out_0 ++ ([Pr.mk (max c_9.x0 c_10.x0) (min c_9.x1 c_10.x1)]), (.cap t_21 2)⟩ ⟨Option.some.inj h, (.inr ⟨_, rfl⟩), trivial⟩)
        · replace h := iteF h hc_18
          refine VW.subK (.c 0 rfl (.c 1 rfl (.c 6 rfl (.c 7 rfl (.c 15 rfl (.c 16 rfl (.c 17 rfl (.c 18 rfl (.c 5 rfl .n))))))))) rfl (VW.skip ?_)
          exact thenQ_normal (J_15 ⟨out_0, tk_3⟩ ⟨Option.some.inj h, hg_4, trivial⟩)
    · replace h := iteF h hc_8
      refine VW.k1 5 rfl (VW.exit (thenQ_exit (thenQ_exit ?_)))
      obtain rfl := oi h
      exact hx0 _ tk_3 rfl hg_4
  · replace h := iteF h hc_7
    refine VO.s rfl (VO.s rfl (VO.s rfl (VO.s rfl (VO.t (v := .bool false) (t_pick (b := false) rfl rfl (fun h => by cases h) (fun _ => (fun _ _ => rfl))) rfl rfl (VO.n (VW.subK (.c 0 rfl (.c 1 rfl (.c 5 rfl (.c 6 rfl (.c 7 rfl (.c 15 rfl (.c 16 rfl (.c 17 rfl (.c 18 rfl (.c 19 rfl .n)))))))))) rfl (VW.condF rfl (VW.k1 5 rfl (VW.exit ?_)))))))))
    refine thenQ_exit (thenQ_exit ?_)
    obtain rfl := oi h
    exact hx0 _ tk_3 rfl hg_4

theorem set_common_ok (a0 : List Pr) (a1 : List Pr) (r : List Pr) (h : PL.set_common a0 a1 = some r) :
    VCalls Tryd.prog 41 [.sl .fz (a0.map Pr.c), .sl .fz (a1.map Pr.c)] (hq [] []) (fun v H => .sl .fz (r.map Pr.c) = v ∧ H = hq [] []) := by
  unfold PL.set_common at h
  refine VCalls.of_body 67 [4] Tryd.func41 rfl rfl rfl (nle rfl) (VW.k2 0 1 rfl (VW.q (VO.a (v := .sl .nl []) rfl (fun _ _ => .inl ⟨rfl, .inl rfl⟩) (VO.n (VW.k2 0 1 rfl (VW.q (VO.a (v := .sl .nl []) rfl (fun _ _ => .inl ⟨rfl, .inl rfl⟩) (VO.n (VW.seq ?_)))))))))
  refine VW.q (VO.a (v := .i 0) rfl (fun _ _ => rfl) (VO.a (v := .i 0) rfl (fun _ _ => rfl) (VO.n (VW.block (VW.k5 0 1 5 6 7 rfl (VW.eqv (A := hq [] ([.nl])) (.refl _) ?_))))))
  obtain ⟨o_0, hx_1, h⟩ := obind h
  refine VW.loopL (set_common.l0_ok a0 a1 _ _ _ _ hx_1 .nl (.inl ⟨rfl, rfl⟩) ?_)
  · intro out_2 tk_3 ho_ hg_4
    subst ho_
    try dsimp only at h
    refine blockQ_hit (thenQ_normal (VW.q (VO.m rfl rfl (VO.a (v := .sl tk_3 (out_2.map Pr.c)) rfl rfl (VO.n (VW.k1 4 rfl (VW.ret ?_)))))))
    obtain rfl := oi h
    exact ⟨.inr rfl, rfl, _, .sl .fz (out_2.map Pr.c), hq [] [], rfl, VLe.sl _ _, hq_sub .slnil (.cons _ .slnil), rfl, rfl⟩

theorem set_outside.l0_ok (a0 : List Pr) {Q : Exit → Env → HH → Prop} :
    ∀ (out_0 : List Pr) (lo_1 : Int) (x_2 : Int) (o : (List Pr × Int)), PL.set_outside.l0 a0 out_0 lo_1 x_2 = some o →
    ∀ (tk_3 : Tok) (hg_4 : Tok.grow tk_3 2 (out_0.map Pr.c)) (hx0 : ∀ (out_5 : List Pr) (lo_6 : Int) (tk_7 : Tok), (out_5, lo_6) = o → Tok.grow tk_7 2 (out_5.map Pr.c) → Q (.exit 0) ⟨[(3, .sl tk_7 (out_5.map Pr.c)), (4, .i lo_6)], []⟩ (hq [] ([tk_7]))), VW Tryd.prog 37 (codeAt [1, 1, 1, 0, 1, 0, 0] (bodyOf Tryd.f42)) (thenQ (VL Tryd.prog 37 (codeAt [1, 1, 1, 0, 1, 0, 0] (bodyOf Tryd.f42)) Q) Q) ⟨[(3, .sl tk_3 (out_0.map Pr.c)), (4, .i lo_1), (7, .sl .fz (a0.map Pr.c)), (8, .i (a0.length : Int)), (9, .i x_2)], []⟩ (hq [] ([tk_3])) := by
  refine PL.set_outside.l0.partial_correctness a0 (motive := fun out_0 lo_1 x_2 o => ∀ (tk_3 : Tok) (hg_4 : Tok.grow tk_3 2 (out_0.map Pr.c)) (hx0 : ∀ (out_5 : List Pr) (lo_6 : Int) (tk_7 : Tok), (out_5, lo_6) = o → Tok.grow tk_7 2 (out_5.map Pr.c) → Q (.exit 0) ⟨[(3, .sl tk_7 (out_5.map Pr.c)), (4, .i lo_6)], []⟩ (hq [] ([tk_7]))), VW Tryd.prog 37 (codeAt [1, 1, 1, 0, 1, 0, 0] (bodyOf Tryd.f42)) (thenQ (VL Tryd.prog 37 (codeAt [1, 1, 1, 0, 1, 0, 0] (bodyOf Tryd.f42)) Q) Q) ⟨[(3, .sl tk_3 (out_0.map Pr.c)), (4, .i lo_1), (7, .sl .fz (a0.map Pr.c)), (8, .i (a0.length : Int)), (9, .i x_2)], []⟩ (hq [] ([tk_3]))) ?_
  intro _ ih out_0 lo_1 x_2 o h tk_3 hg_4 hx0
  refine VW.q (VO.t (v := .bool (decide (x_2 < (a0.length : Int)))) (t_cmp rfl rfl rfl rfl rfl) rfl rfl (VO.n (VW.seq ?_)))
  refine VW.cond (b := (decide (x_2 < (a0.length : Int)))) rfl (fun hc_8 => ?_) (fun hc_8 => ?_)
  · replace h := iteT h hc_8
    refine VW.skip (thenQ_normal (VW.k5 3 4 7 8 9 rfl (VW.seq (VW.block (VW.q ?_)))))
    obtain ⟨c_9, hc_9, h⟩ := obind h
    refine VO.t (v := .vptr (Pr.c c_9)) (t_indexAddr rfl sl31 rfl rfl (getI_some hc_9).1 (map_get (getI_some hc_9).2 (Pr.c_eq c_9)) rfl) rfl rfl (VO.r (v := .agg (Pr.c c_9)) (r_load_v rfl sz59 rfl rfl) rfl rfl (VO.w (fun v H' => ∃ ob_10, .ptr ob_10 0 = v ∧ H' = hq ([[(ob_10, .cells [.i 0, .i 0])]]) ([tk_3])) (w_alloc_q rfl zt59 (fun ob => ⟨ob, rfl, rfl⟩)) rfl rfl ?_))
    rintro _ _ ⟨ob_10, rfl, rfl⟩
    refine VO.w (fun v H' => .any = v ∧ H' = hq ([[(ob_10, .cells (Pr.c c_9))]]) ([tk_3])) (w_store_q (i := 0) rfl sz59 rfl rfl rfl rfl rfl (nle rfl) ⟨rfl, rfl⟩) rfl rfl ?_
    rintro _ _ ⟨rfl, rfl⟩
    refine VO.n (VW.k6 3 4 7 8 9 6 rfl (VW.seq (VW.q (VO.m rfl rfl (VO.t (v := .ptr ob_10 0) (t_indexAddr_parr rfl ar59 rfl (fun _ _ => rfl) (by decide) (by decide) rfl) rfl rfl (VO.r (v := .i c_9.x0) (r_load_q (i := 0) rfl sz3 rfl rfl rfl) rfl rfl (VO.t (v := .bool (decide (lo_1 < c_9.x0))) (t_cmp rfl rfl rfl rfl rfl) rfl rfl (VO.n (VW.k7 3 4 7 8 9 6 16 rfl ?_)))))))))
    obtain ⟨o_11, h, hx_12⟩ := obind h
    refine VW.joinQ (E := List Pr × Tok) (I := fun ⟨out_13, tk_14⟩ => out_13 = o_11 ∧ Tok.grow tk_14 2 (out_13.map Pr.c) ∧ True) (env' := fun ⟨out_13, tk_14⟩ => ⟨[(7, .sl .fz (a0.map Pr.c)), (8, .i (a0.length : Int)), (9, .i x_2), (6, .ptr ob_10 0), (3, .sl tk_14 (out_13.map Pr.c))], []⟩) (H' := fun ⟨out_13, tk_14⟩ => hq ([[(ob_10, .cells (Pr.c c_9))]]) ([tk_14])) ?_ (fun J_15 => ?_)
    · rintro ⟨out_13, tk_14⟩ ⟨ho_, hg_16, _⟩
      subst ho_
      replace h := hx_12
      clear hx_12
      try dsimp only at h
      show VW _ _ _ _ ⟨[(7, .sl .fz (a0.map Pr.c)), (8, .i (a0.length : Int)), (9, .i x_2), (6, .ptr ob_10 0), (3, .sl tk_14 (out_13.map Pr.c))], []⟩ (hq ([[(ob_10, .cells (Pr.c c_9))]]) ([tk_14]))
      refine VW.region (VO.t (v := .ptr ob_10 1) (t_indexAddr_parr rfl ar59 rfl (fun _ _ => rfl) (by decide) (by decide) rfl) rfl rfl (VO.r (v := .i c_9.x1) (r_load_q (i := 0) rfl sz3 rfl rfl rfl) rfl rfl (VO.t (v := .i (w64 (c_9.x1 + 1))) (t_add rfl rfl (fun _ _ => rfl) rfl) rfl rfl (VO.a (v := .i (w64 (c_9.x1 + 1))) rfl rfl (VO.nil (blockQ_normal (thenQ_normal (VW.k5 7 8 9 3 4 rfl (VW.hsub (A := hq [] ([tk_14])) (hq_sub (.cons _ .slnil) (.cons_cons _ .slnil)) ?_)))))))))
      refine VW.region (VO.t (v := .i (w64 (x_2 + 1))) (t_add rfl rfl (fun _ _ => rfl) rfl) rfl rfl (VO.m rfl rfl (VO.nil (thenQ_normal (VL.round ?_)))))
      refine VW.k5 3 4 7 8 9 rfl ?_
      exact ih _ _ _ _ h tk_14 hg_16 hx0
    · refine VW.cond (b := (decide (lo_1 < c_9.x0))) rfl (fun hc_17 => ?_) (fun hc_17 => ?_)
      · replace h := iteT h hc_17
        refine VW.region (VO.m rfl rfl (VO.m rfl rfl (VO.t (v := .ptr ob_10 0) (t_indexAddr_parr rfl ar59 rfl (fun _ _ => rfl) (by decide) (by decide) rfl) rfl rfl (VO.r (v := .i c_9.x0) (r_load_q (i := 0) rfl sz3 rfl rfl rfl) rfl rfl (VO.t (v := .i (w64 (c_9.x0 - 1))) (t_sub rfl rfl (fun _ _ => rfl) rfl) rfl rfl (VO.t (v := .agg [.i lo_1, .i (w64 (c_9.x0 - 1))]) (t_build_arr rfl av59 ⟨_, _, rfl, rfl, rfl, _, _, rfl, rfl, rfl, rfl⟩ rfl) rfl rfl (VO.w (fun v H' => ∃ t_18, .sl (.cap t_18 2) (([Pr.mk lo_1 (w64 (c_9.x0 - 1))]).map Pr.c) = v ∧ H' = hq ([[(ob_10, .cells (Pr.c c_9))]]) ([.cap t_18 2, tk_3])) (w_buildSlice (l := [[.i lo_1, .i (w64 (c_9.x0 - 1))]]) rfl el31 ⟨rfl, _, _, rfl, rfl, rfl, rfl, rfl⟩ rfl (nle rfl) (fun tk => ⟨tk, by simp only [List.map_cons, List.map_nil, Pr.c_eq], rfl⟩)) rfl rfl ?_)))))))
        rintro _ _ ⟨t_18, rfl, rfl⟩
        obtain ⟨_, hr_19, h⟩ := obind h
        refine VO.w (fun v H' => ∃ t_20, .sl (.cap t_20 2) ((out_0 ++ ([Pr.mk lo_1 (w64 (c_9.x0 - 1))])).map Pr.c) = v ∧ H' = hq ([[(ob_10, .cells (Pr.c c_9))]]) ([.cap t_20 2, .cap t_18 2])) (w_append (objs := List.flatten [[(ob_10, .cells (Pr.c c_9))]]) (tks := [.cap t_18 2, tk_3]) (i := 1) rfl el31 rfl rfl hg_4 rfl (elemsOK_map Pr.c_ok _) (by have := room_some hr_19; simpa using this) (nle rfl) (fun t => ⟨t, by simp only [List.map_append, List.map_nil, List.nil_append], rfl⟩)) rfl rfl ?_
        rintro _ _ ⟨t_20, rfl, rfl⟩
        refine VO.a (v := .sl (.cap t_20 2) ((out_0 ++ ([Pr.mk lo_1 (w64 (c_9.x0 - 1))])).map Pr.c)) rfl rfl (VO.subK (.c 7 rfl (.c 8 rfl (.c 9 rfl (.c 6 rfl (.c 3 rfl .n))))) rfl (VO.hsub (A := hq ([[(ob_10, .cells (Pr.c c_9))]]) ([.cap t_20 2])) (hq_sub (.cons_cons _ .slnil) (.cons_cons _ (.cons _ .slnil))) (VO.nil ?_)))
        exact thenQ_normal (J_15 ⟨out_0 ++ ([Pr.mk lo_1 (w64 (c_9.x0 - 1))]), (.cap t_20 2)⟩ ⟨Option.some.inj h, (.inr ⟨_, rfl⟩), trivial⟩)
      · replace h := iteF h hc_17
        refine VW.k5 7 8 9 6 3 rfl (VW.skip ?_)
        exact thenQ_normal (J_15 ⟨out_0, tk_3⟩ ⟨Option.some.inj h, hg_4, trivial⟩)
  · replace h := iteF h hc_8
    refine VW.k2 3 4 rfl (VW.exit (thenQ_exit (thenQ_exit ?_)))
    obtain rfl := oi h
    exact hx0 _ _ tk_3 rfl hg_4

theorem set_outside_ok (a0 : List Pr) (r : List Pr) (h : PL.set_outside a0 = some r) :
    VCalls Tryd.prog 42 [.sl .fz (a0.map Pr.c)] (hq [] []) (fun v H => .sl .fz (r.map Pr.c) = v ∧ H = hq [] []) := by
  unfold PL.set_outside at h
  refine VCalls.of_body 37 [2] Tryd.func42 rfl rfl rfl (nle rfl) (VW.k1 0 rfl (VW.q (VO.a (v := .sl .nl []) rfl (fun _ _ => .inl ⟨rfl, .inl rfl⟩) (VO.n (VW.k1 0 rfl (VW.q (VO.a (v := .sl .nl []) rfl (fun _ _ => .inl ⟨rfl, .inl rfl⟩) (VO.n (VW.q ?_)))))))))
  refine VO.a (v := .i (-1000000000000000)) rfl (fun _ _ => rfl) (VO.n (VW.seq (VW.q (VO.m rfl rfl (VO.t (v := .i (a0.length : Int)) (t_len rfl ⟨_, Tryd.underlying31⟩ rfl (by rw [List.length_map])) rfl rfl (VO.m (v := .i 0) rfl (fun _ _ => rfl) (VO.n (VW.k5 3 4 7 8 9 rfl (VW.block ?_)))))))))
  refine VW.k5 3 4 7 8 9 rfl (VW.eqv (A := hq [] ([.nl])) (.refl _) ?_)
  obtain ⟨o_0, hx_1, h⟩ := obind h
  refine VW.loopL (set_outside.l0_ok a0 _ _ _ _ hx_1 .nl (.inl ⟨rfl, rfl⟩) ?_)
  · intro out_2 lo_3 tk_4 ho_ hg_5
    subst ho_
    try dsimp only at h
    refine blockQ_hit (thenQ_normal (VW.seq (VW.q (VO.m rfl rfl (VO.t (v := .bool (decide (lo_3 ≤ 1000000000000000))) (t_cmp rfl rfl rfl (fun _ _ => rfl) rfl) rfl rfl (VO.n (VW.k3 3 4 30 rfl ?_)))))))
    obtain ⟨o_6, h, hx_7⟩ := obind h
    refine VW.joinQ (E := List Pr × Tok) (I := fun ⟨out_8, tk_9⟩ => out_8 = o_6 ∧ Tok.grow tk_9 2 (out_8.map Pr.c) ∧ True) (env' := fun ⟨out_8, tk_9⟩ => ⟨[(3, .sl tk_9 (out_8.map Pr.c))], []⟩) (H' := fun ⟨out_8, tk_9⟩ => hq [] ([tk_9])) ?_ (fun J_10 => ?_)
    · rintro ⟨out_8, tk_9⟩ ⟨ho_, hg_11, _⟩
      subst ho_
      replace h := hx_7
      clear hx_7
      try dsimp only at h
      show VW _ _ _ _ ⟨[(3, .sl tk_9 (out_8.map Pr.c))], []⟩ (hq [] ([tk_9]))
      refine VW.q (VO.m rfl rfl (VO.a (v := .sl tk_9 (out_8.map Pr.c)) rfl rfl (VO.n (VW.k1 2 rfl (VW.ret ?_)))))
      obtain rfl := oi h
      exact ⟨.inr rfl, rfl, _, .sl .fz (out_8.map Pr.c), hq [] [], rfl, VLe.sl _ _, hq_sub .slnil (.cons _ .slnil), rfl, rfl⟩
    · refine VW.cond (b := (decide (lo_3 ≤ 1000000000000000))) rfl (fun hc_12 => ?_) (fun hc_12 => ?_)
      · replace h := iteT h hc_12
        refine VW.region (VO.m rfl rfl (VO.m rfl rfl (VO.t (v := .agg [.i lo_3, .i 1000000000000000]) (t_build_arr rfl av59 ⟨_, _, rfl, rfl, rfl, .i 1000000000000000, _, rfl, (fun _ _ => rfl), rfl, rfl⟩ rfl) rfl rfl (VO.w (fun v H' => ∃ t_13, .sl (.cap t_13 2) (([Pr.mk lo_3 1000000000000000]).map Pr.c) = v ∧ H' = hq [] ([.cap t_13 2, tk_4])) (w_buildSlice (l := [[.i lo_3, .i 1000000000000000]]) rfl el31 ⟨rfl, _, _, rfl, rfl, rfl, rfl, rfl⟩ rfl (nle rfl) (fun tk => ⟨tk, by simp only [List.map_cons, List.map_nil, Pr.c_eq], rfl⟩)) rfl rfl ?_))))
        rintro _ _ ⟨t_13, rfl, rfl⟩
        obtain ⟨_, hr_14, h⟩ := obind h
        refine VO.w (fun v H' => ∃ t_15, .sl (.cap t_15 2) ((out_2 ++ ([Pr.mk lo_3 1000000000000000])).map Pr.c) = v ∧ H' = hq [] ([.cap t_15 2, .cap t_13 2])) (w_append (objs := List.flatten []) (tks := [.cap t_13 2, tk_4]) (i := 1) rfl el31 rfl rfl hg_5 rfl (elemsOK_map Pr.c_ok _) (by have := room_some hr_14; simpa using this) (nle rfl) (fun t => ⟨t, by simp only [List.map_append, List.map_nil, List.nil_append], rfl⟩)) rfl rfl ?_
        rintro _ _ ⟨t_15, rfl, rfl⟩
        refine VO.a (v := .sl (.cap t_15 2) ((out_2 ++ ([Pr.mk lo_3 1000000000000000])).map Pr.c)) rfl rfl (VO.subK (.c 3 rfl .n) rfl (VO.hsub (A := hq [] ([.cap t_15 2])) (hq_sub .slnil (.cons_cons _ (.cons _ .slnil))) (VO.nil ?_)))
        exact thenQ_normal (J_10 ⟨out_2 ++ ([Pr.mk lo_3 1000000000000000]), (.cap t_15 2)⟩ ⟨Option.some.inj h, (.inr ⟨_, rfl⟩), trivial⟩)
      · replace h := iteF h hc_12
        refine VW.k1 3 rfl (VW.skip ?_)
        exact thenQ_normal (J_10 ⟨out_2, tk_4⟩ ⟨Option.some.inj h, hg_5, trivial⟩)

theorem set_value.l1_ok (kids_0 : List (List Pr)) {Q : Exit → Env → HH → Prop} :
    ∀ (s_1 : List Pr) (x_2 : Int) (o : (List Pr)), PL.set_value.l1 kids_0 s_1 x_2 = some o →
    ∀ (hx0 : ∀ (s_3 : List Pr), s_3 = o → Q (.exit 3) ⟨[(6, .sl .fz (s_3.map Pr.c))], []⟩ (hq [] [])), VW Tryd.prog 71 (codeAt [1, 1, 1, 0, 1, 0, 1, 1, 1, 1, 1, 0, 1, 0, 1, 0, 0] (bodyOf Tryd.f24)) (thenQ (VL Tryd.prog 71 (codeAt [1, 1, 1, 0, 1, 0, 1, 1, 1, 1, 1, 0, 1, 0, 1, 0, 0] (bodyOf Tryd.f24)) Q) Q) ⟨[(6, .sl .fz (s_1.map Pr.c)), (43, .sl .fz (((kids_0.take (kids_0.length : Int).toNat).drop (1 : Int).toNat).map (cSl Pr.c))), (44, .i (((kids_0.take (kids_0.length : Int).toNat).drop (1 : Int).toNat).length : Int)), (45, .i x_2)], []⟩ (hq [] []) := by
  refine PL.set_value.l1.partial_correctness kids_0 (motive := fun s_1 x_2 o => ∀ (hx0 : ∀ (s_3 : List Pr), s_3 = o → Q (.exit 3) ⟨[(6, .sl .fz (s_3.map Pr.c))], []⟩ (hq [] [])), VW Tryd.prog 71 (codeAt [1, 1, 1, 0, 1, 0, 1, 1, 1, 1, 1, 0, 1, 0, 1, 0, 0] (bodyOf Tryd.f24)) (thenQ (VL Tryd.prog 71 (codeAt [1, 1, 1, 0, 1, 0, 1, 1, 1, 1, 1, 0, 1, 0, 1, 0, 0] (bodyOf Tryd.f24)) Q) Q) ⟨[(6, .sl .fz (s_1.map Pr.c)), (43, .sl .fz (((kids_0.take (kids_0.length : Int).toNat).drop (1 : Int).toNat).map (cSl Pr.c))), (44, .i (((kids_0.take (kids_0.length : Int).toNat).drop (1 : Int).toNat).length : Int)), (45, .i x_2)], []⟩ (hq [] [])) ?_
  intro _ ih s_1 x_2 o h hx0
  refine VW.q (VO.t (v := .bool (decide (x_2 < (((kids_0.take (kids_0.length : Int).toNat).drop (1 : Int).toNat).length : Int)))) (t_cmp rfl rfl rfl rfl rfl) rfl rfl (VO.n (VW.seq ?_)))
  refine VW.cond (b := (decide (x_2 < (((kids_0.take (kids_0.length : Int).toNat).drop (1 : Int).toNat).length : Int)))) rfl (fun hc_4 => ?_) (fun hc_4 => ?_)
  · replace h := iteT h hc_4
    refine VW.skip (thenQ_normal (VW.k4 6 43 44 45 rfl (VW.seq (VW.block (VW.q ?_)))))
    obtain ⟨c_5, hc_5, h⟩ := obind h
    refine VO.t (v := .vptr [.sl .fz (c_5.map Pr.c)]) (t_indexAddr rfl sl75 rfl rfl (getI_some hc_5).1 (map_get (getI_some hc_5).2 rfl) rfl) rfl rfl (VO.r (v := .sl .fz (c_5.map Pr.c)) (r_load_v rfl sz31 rfl rfl) rfl rfl (VO.a (v := .sl .fz (c_5.map Pr.c)) rfl rfl (VO.n (VW.k5 6 43 44 45 8 rfl (VW.region (VO.m rfl rfl (VO.m rfl rfl ?_)))))))
    obtain ⟨rv_6, hx_7, h⟩ := obind h
    refine VO.k (w_keep rfl fn41 rfl ⟨_, _, rfl, rfl, _, _, rfl, rfl, rfl⟩ (set_common_ok _ _ _ hx_7)) rfl rfl (VO.a (v := .sl .fz (rv_6.map Pr.c)) rfl rfl (VO.nil (blockQ_normal (thenQ_normal (VW.k4 43 44 45 6 rfl (VW.region (VO.t (v := .i (w64 (x_2 + 1))) (t_add rfl rfl (fun _ _ => rfl) rfl) rfl rfl (VO.m rfl rfl (VO.nil ?_)))))))))
    refine thenQ_normal (VL.round ?_)
    refine VW.k4 6 43 44 45 rfl ?_
    exact ih _ _ _ h hx0
  · replace h := iteF h hc_4
    refine VW.k1 6 rfl (VW.exit (thenQ_exit (thenQ_exit ?_)))
    obtain rfl := oi h
    exact hx0 _ rfl

theorem set_value_ok (a0 : Node) (r : List Pr) (h : PL.set_value a0 = some r) :
    VCalls Tryd.prog 24 [.agg (Node.l a0)] (hq [] []) (fun v H => .sl .fz (r.map Pr.c) = v ∧ H = hq [] []) := by
  revert h
  refine (PL.set_value.l0.mutual_partial_correctness (motive_1 := fun a0 kids_0 x_1 o => ∀ (Q : Exit → Env → HH → Prop) (ob_2 : Nat) (tk_3 : Tok) (hg_4 : Tok.grow tk_3 1 (kids_0.map (cSl Pr.c))) (hx0 : ∀ (kids_5 : List (List Pr)) (tk_6 : Tok), kids_5 = o → Tok.grow tk_6 1 (kids_5.map (cSl Pr.c)) → Q (.exit 0) ⟨[(1, .ptr ob_2 0), (3, .sl tk_6 (kids_5.map (cSl Pr.c)))], []⟩ (hq ([[(ob_2, .cells (Node.l a0))]]) ([tk_6]))), VW Tryd.prog 71 (codeAt [1, 1, 0, 1, 0, 0] (bodyOf Tryd.f24)) (thenQ (VL Tryd.prog 71 (codeAt [1, 1, 0, 1, 0, 0] (bodyOf Tryd.f24)) Q) Q) ⟨[(1, .ptr ob_2 0), (3, .sl tk_3 (kids_0.map (cSl Pr.c))), (10, .sl .fz (a0.Kids.map Node.c)), (11, .i (a0.Kids.length : Int)), (12, .i x_1)], []⟩ (hq ([[(ob_2, .cells (Node.l a0))]]) ([tk_3]))) (motive_2 := fun a0 r => VCalls Tryd.prog 24 [.agg (Node.l a0)] (hq [] []) (fun v H => .sl .fz (r.map Pr.c) = v ∧ H = hq [] [])) ?_ ?_).2 a0 r
  · intro _ _ ih_set_value_l0 ih_set_value a0 kids_0 x_1 o h Q ob_2 tk_3 hg_4 hx0
    refine VW.q (VO.t (v := .bool (decide (x_1 < (a0.Kids.length : Int)))) (t_cmp rfl rfl rfl rfl rfl) rfl rfl (VO.n (VW.seq ?_)))
    refine VW.cond (b := (decide (x_1 < (a0.Kids.length : Int)))) rfl (fun hc_7 => ?_) (fun hc_7 => ?_)
    · replace h := iteT h hc_7
      refine VW.skip (thenQ_normal (VW.k5 1 3 10 11 12 rfl (VW.seq (VW.block (VW.q ?_)))))
      obtain ⟨c_8, hc_8, h⟩ := obind h
      refine VO.t (v := .vptr (Node.l c_8)) (t_indexAddr rfl sl27 rfl rfl (getI_some hc_8).1 (map_get (getI_some hc_8).2 (Node.c_eq c_8)) rfl) rfl rfl (VO.r (v := .agg (Node.l c_8)) (r_load_v rfl sz29 rfl rfl) rfl rfl (VO.w (fun v H' => ∃ ob_9, .ptr ob_9 0 = v ∧ H' = hq ([[(ob_9, .cells [.i 0, .i 0, .i 0, .sl .nl []])], [(ob_2, .cells (Node.l a0))]]) ([tk_3])) (w_alloc_q rfl zt29 (fun ob => ⟨ob, rfl, rfl⟩)) rfl rfl ?_))
      rintro _ _ ⟨ob_9, rfl, rfl⟩
      refine VO.w (fun v H' => .any = v ∧ H' = hq ([[(ob_9, .cells (Node.l c_8))], [(ob_2, .cells (Node.l a0))]]) ([tk_3])) (w_store_q (i := 0) rfl sz29 rfl rfl rfl rfl rfl (nle rfl) ⟨rfl, rfl⟩) rfl rfl ?_
      rintro _ _ ⟨rfl, rfl⟩
      refine VO.n (VW.k6 1 3 10 11 12 5 rfl (VW.region (VO.m rfl rfl (VO.r (v := .agg (Node.l c_8)) (r_load_q (i := 0) rfl sz29 rfl rfl rfl) rfl rfl ?_))))
      obtain ⟨rv_10, hx_11, h⟩ := obind h
      refine VO.k (w_keep rfl fn24 rfl ⟨_, _, rfl, rfl, rfl⟩ (ih_set_value _ _ hx_11)) rfl rfl (VO.w (fun v H' => ∃ t_12, .sl (.cap t_12 1) (([rv_10]).map (cSl Pr.c)) = v ∧ H' = hq ([[(ob_9, .cells (Node.l c_8))], [(ob_2, .cells (Node.l a0))]]) ([.cap t_12 1, tk_3])) (w_buildSlice (l := [[.sl .fz (rv_10.map Pr.c)]]) rfl el75 ⟨rfl, _, _, rfl, rfl, rfl, rfl, rfl⟩ rfl (nle rfl) (fun tk => ⟨tk, by simp only [List.map_cons, List.map_nil, cInt, cBool, cStr, cSl], rfl⟩)) rfl rfl ?_)
      rintro _ _ ⟨t_12, rfl, rfl⟩
      obtain ⟨_, hr_13, h⟩ := obind h
      refine VO.w (fun v H' => ∃ t_14, .sl (.cap t_14 1) ((kids_0 ++ ([rv_10])).map (cSl Pr.c)) = v ∧ H' = hq ([[(ob_9, .cells (Node.l c_8))], [(ob_2, .cells (Node.l a0))]]) ([.cap t_14 1, .cap t_12 1])) (w_append (objs := List.flatten [[(ob_9, .cells (Node.l c_8))], [(ob_2, .cells (Node.l a0))]]) (tks := [.cap t_12 1, tk_3]) (i := 1) rfl el75 rfl rfl hg_4 rfl (elemsOK_map (cSl_ok Pr.c) _) (by have := room_some hr_13; simpa using this) (nle rfl) (fun t => ⟨t, by simp only [List.map_append, List.map_nil, List.nil_append], rfl⟩)) rfl rfl ?_
      rintro _ _ ⟨t_14, rfl, rfl⟩
      refine VO.a (v := .sl (.cap t_14 1) ((kids_0 ++ ([rv_10])).map (cSl Pr.c))) rfl rfl (VO.nil (blockQ_normal (thenQ_normal (VW.k5 1 10 11 12 3 rfl (VW.hsub (A := hq ([[(ob_2, .cells (Node.l a0))]]) ([.cap t_14 1])) (hq_sub (.cons _ (.cons_cons _ .slnil)) (.cons_cons _ (.cons _ .slnil))) (VW.region (VO.t (v := .i (w64 (x_1 + 1))) (t_add rfl rfl (fun _ _ => rfl) rfl) rfl rfl (VO.m rfl rfl (VO.nil ?_)))))))))
      refine thenQ_normal (VL.round ?_)
      refine VW.k5 1 3 10 11 12 rfl ?_
      exact ih_set_value_l0 _ _ _ _ h _ ob_2 (.cap t_14 1) (.inr ⟨_, rfl⟩) hx0
    · replace h := iteF h hc_7
      refine VW.k2 1 3 rfl (VW.exit (thenQ_exit (thenQ_exit ?_)))
      obtain rfl := oi h
      exact hx0 _ tk_3 rfl hg_4
  · intro _ ih_set_value_l0 a0 r h 
    refine VCalls.of_body 71 [2] Tryd.func24 rfl rfl rfl (nle rfl) (VW.k1 0 rfl (VW.q (VO.w (fun v H' => ∃ ob_2, .ptr ob_2 0 = v ∧ H' = hq ([[(ob_2, .cells (Node.l a0))]]) []) (w_box_q rfl rfl rfl (fun ob => ⟨ob, rfl, rfl⟩)) rfl rfl ?_)))
    rintro _ _ ⟨ob_2, rfl, rfl⟩
    refine VO.a (v := .sl .nl []) rfl (fun _ _ => .inl ⟨rfl, .inl rfl⟩) (VO.n (VW.k1 1 rfl (VW.q (VO.a (v := .sl .nl []) rfl (fun _ _ => .inl ⟨rfl, .inl rfl⟩) (VO.n (VW.seq (VW.q (VO.t (v := .ptr ob_2 3) (t_fieldAddr_ptr rfl fi29_3 rfl rfl) rfl rfl (VO.r (v := .sl .fz (a0.Kids.map Node.c)) (r_load_q (i := 0) rfl sz27 rfl rfl rfl) rfl rfl ?_)))))))))
    refine VO.t (v := .i (a0.Kids.length : Int)) (t_len rfl ⟨_, Tryd.underlying27⟩ rfl (by rw [List.length_map])) rfl rfl (VO.m (v := .i 0) rfl (fun _ _ => rfl) (VO.n (VW.k5 1 3 10 11 12 rfl (VW.block (VW.k5 1 3 10 11 12 rfl (VW.eqv (A := hq ([[(ob_2, .cells (Node.l a0))]]) ([.nl])) (.refl _) ?_))))))
    obtain ⟨o_15, hx_16, h⟩ := obind h
    refine VW.loopL (ih_set_value_l0 _ _ _ _ hx_16 _ ob_2 .nl (.inl ⟨rfl, rfl⟩) ?_)
    · intro kids_5 tk_6 ho_ hg_17
      subst ho_
      try dsimp only at h
      refine blockQ_hit (thenQ_normal (VW.seq (VW.q (VO.t (v := .ptr ob_2 0) (t_fieldAddr_ptr rfl fi29_0 rfl rfl) rfl rfl (VO.r (v := .i a0.Op) (r_load_q (i := 0) rfl sz3 rfl rfl rfl) rfl rfl (VO.n (VW.k3 1 3 23 rfl (VW.block (VW.q ?_)))))))))
      refine VO.t (v := .bool (a0.Op == 0)) (t_cmp rfl rfl rfl (fun _ _ => rfl) rfl) rfl rfl (VO.a (v := .bool (a0.Op == 0)) rfl rfl (VO.n (VW.k4 1 3 23 24 rfl ?_)))
      refine VW.cond (b := (a0.Op == 0)) rfl (fun hc_18 => ?_) (fun hc_18 => ?_)
      · replace h := iteT h hc_18
        refine VW.q (VO.t (v := .ptr ob_2 1) (t_fieldAddr_ptr rfl fi29_1 rfl rfl) rfl rfl (VO.r (v := .i a0.Lo) (r_load_q (i := 0) rfl sz3 rfl rfl rfl) rfl rfl (VO.t (v := .ptr ob_2 2) (t_fieldAddr_ptr rfl fi29_2 rfl rfl) rfl rfl (VO.r (v := .i a0.Hi) (r_load_q (i := 0) rfl sz3 rfl rfl rfl) rfl rfl (VO.t (v := .agg [.i a0.Lo, .i a0.Hi]) (t_build_arr rfl av59 ⟨_, _, rfl, rfl, rfl, _, _, rfl, rfl, rfl, rfl⟩ rfl) rfl rfl (VO.w (fun v H' => ∃ t_19, .sl (.cap t_19 2) (([Pr.mk a0.Lo a0.Hi]).map Pr.c) = v ∧ H' = hq ([[(ob_2, .cells (Node.l a0))]]) ([.cap t_19 2, tk_6])) (w_buildSlice (l := [[.i a0.Lo, .i a0.Hi]]) rfl el31 ⟨rfl, _, _, rfl, rfl, rfl, rfl, rfl⟩ rfl (nle rfl) (fun tk => ⟨tk, by simp only [List.map_cons, List.map_nil, Pr.c_eq], rfl⟩)) rfl rfl ?_))))))
        rintro _ _ ⟨t_19, rfl, rfl⟩
        refine VO.a (v := .sl (.cap t_19 2) (([Pr.mk a0.Lo a0.Hi]).map Pr.c)) rfl rfl (VO.n (VW.k1 2 rfl (VW.hsub (A := hq [] ([.cap t_19 2])) (hq_sub (.cons _ .slnil) (.cons_cons _ (.cons _ .slnil))) (VW.ret (blockQ_ret (thenQ_ret ?_))))))
        obtain rfl := oi h
        exact ⟨.inr rfl, rfl, _, .sl .fz (([Pr.mk a0.Lo a0.Hi]).map Pr.c), hq [] [], rfl, VLe.sl _ _, hq_sub .slnil (.cons _ .slnil), rfl, rfl⟩
      · replace h := iteF h hc_18
        refine VW.q (VO.t (v := .bool (a0.Op == 1)) (t_cmp rfl rfl rfl (fun _ _ => rfl) rfl) rfl rfl (VO.a (v := .bool (a0.Op == 1)) rfl rfl (VO.n (VW.k3 3 23 32 rfl (VW.hsub (A := hq [] ([tk_6])) (hq_sub (.cons _ .slnil) (.cons_cons _ .slnil)) ?_)))))
        refine VW.cond (b := (a0.Op == 1)) rfl (fun hc_20 => ?_) (fun hc_20 => ?_)
        · replace h := iteT h hc_20
          refine VW.q (VO.m rfl rfl (VO.weak (d := 34) (v' := .sl .fz (kids_5.map (cSl Pr.c))) rfl (VLe.sl _ _) ?_))
          obtain ⟨rv_21, hx_22, h⟩ := obind h
          refine VO.w (fun v H' => ∃ vr0_23 br0_24, Buf 2 (rv_21.map Pr.c) vr0_23 br0_24 ∧ vr0_23 = v ∧ H' = hq ([br0_24]) ([tk_6])) (w_call_q (sa := []) (sg := []) (tks := [tk_6]) rfl fn40 rfl ⟨_, _, rfl, rfl, rfl⟩ (slices_Concat_2int2int_ok _ _ hx_22) (by rintro v H' ⟨vr0_23, br0_24, h_25, rfl, rfl⟩; exact ⟨[br0_24], rfl, vr0_23, br0_24, h_25, rfl, rfl⟩)) rfl rfl ?_
          rintro _ _ ⟨vr0_23, br0_24, hB_26, rfl, rfl⟩
          obtain ⟨⟨rv_27, k_28⟩, hx_29, h⟩ := obind h
          try dsimp only at h
          refine VO.w (fun v H' => ∃ bk0_30, Buf 2 (k_28.map Pr.c) vr0_23 bk0_30 ∧ .sl .fz (rv_27.map Pr.c) = v ∧ H' = hq ([bk0_30]) ([tk_6])) (w_call_q (sa := [br0_24]) (sg := []) (tks := [tk_6]) rfl fn39 rfl ⟨_, _, rfl, rfl, rfl⟩ (set_tidy_ok _ _ hx_29 vr0_23 br0_24 hB_26) (by rintro v H' ⟨bk0_30, h_25, rfl, rfl⟩; exact ⟨[bk0_30], rfl, bk0_30, h_25, rfl, rfl⟩)) rfl rfl ?_
          rintro _ _ ⟨bk0_30, hB_31, rfl, rfl⟩
          refine VO.a (v := .sl .fz (rv_27.map Pr.c)) rfl rfl (VO.n (VW.ret (blockQ_ret (thenQ_ret ?_))))
          cases oi h
          exact ret0 rfl rfl ⟨rfl, rfl⟩
        · replace h := iteF h hc_20
          refine VW.q (VO.t (v := .bool (a0.Op == 2)) (t_cmp rfl rfl rfl (fun _ _ => rfl) rfl) rfl rfl (VO.a (v := .bool (a0.Op == 2)) rfl rfl (VO.n (VW.k3 3 23 37 rfl ?_))))
          refine VW.cond (b := (a0.Op == 2)) rfl (fun hc_32 => ?_) (fun hc_32 => ?_)
          · replace h := iteT h hc_32
            refine VW.q (VO.m rfl rfl ?_)
            obtain ⟨c_33, hc_33, h⟩ := obind h
            refine VO.t (v := .vptr [.sl .fz (c_33.map Pr.c)]) (t_indexAddr rfl sl75 rfl (fun _ _ => rfl) (getI_some hc_33).1 (map_get (getI_some hc_33).2 rfl) rfl) rfl rfl (VO.r (v := .sl .fz (c_33.map Pr.c)) (r_load_v rfl sz31 rfl rfl) rfl rfl (VO.a (v := .sl .fz (c_33.map Pr.c)) rfl rfl (VO.n (VW.k2 3 6 rfl (VW.seq (VW.q (VO.m rfl rfl ?_)))))))
            obtain ⟨ha_34, h⟩ := ite_some h
            refine VO.t (v := .sl .fz (((kids_5.take (kids_5.length : Int).toNat).drop (1 : Int).toNat).map (cSl Pr.c))) (t_slice (i := 1) (j := (kids_5.length : Int)) rfl sl75 rfl ⟨_, (fun _ _ => rfl)⟩ (by simp [EvB]) (by decide) ha_34 (by simpa using (Int.le_refl (kids_5.length : Int))) (elemsLen_map (cSl_ok Pr.c) _) (by rw [List.map_drop, List.map_take])) rfl rfl (VO.t (v := .i (((kids_5.take (kids_5.length : Int).toNat).drop (1 : Int).toNat).length : Int)) (t_len rfl ⟨_, Tryd.underlying75⟩ rfl (by rw [List.length_map])) rfl rfl (VO.m (v := .i 0) rfl (fun _ _ => rfl) (VO.n (VW.k4 6 43 44 45 rfl (VW.hsub (A := hq [] []) (hq_sub .slnil (.cons _ .slnil)) (VW.block (VW.k4 6 43 44 45 rfl ?_)))))))
            obtain ⟨o_35, hx_36, h⟩ := obind h
            refine VW.loopL (set_value.l1_ok kids_5 _ _ _ hx_36 ?_)
            · intro s_37 ho_
              subst ho_
              try dsimp only at h
              refine blockQ_hit (thenQ_normal (VW.q (VO.m rfl rfl (VO.a (v := .sl .fz (s_37.map Pr.c)) rfl rfl (VO.n (VW.ret (blockQ_ret (thenQ_ret ?_))))))))
              cases oi h
              exact ret0 rfl rfl ⟨rfl, rfl⟩
          · replace h := iteF h hc_32
            refine VW.q (VO.t (v := .bool (a0.Op == 3)) (t_cmp rfl rfl rfl (fun _ _ => rfl) rfl) rfl rfl (VO.a (v := .bool (a0.Op == 3)) rfl rfl (VO.n (VW.k3 3 23 54 rfl ?_))))
            refine VW.cond (b := (a0.Op == 3)) rfl (fun hc_38 => ?_) (fun hc_38 => ?_)
            · replace h := iteT h hc_38
              refine VW.seq (VW.draw 9 mix rfl (VA.t (i := 0) rfl (t_move rfl rfl) (.inl rfl) (by kernel_rfl) ?_))
              obtain ⟨c_39, hc_39, h⟩ := obind h
              refine VA.t (i := 1) (v := .vptr [.sl .fz (c_39.map Pr.c)]) rfl (t_indexAddr rfl sl75 rfl (fun _ _ => rfl) (getI_some hc_39).1 (map_get (getI_some hc_39).2 rfl) rfl) (.inl rfl) (by kernel_rfl) (VA.keeps (VK.r (v := .sl .fz (c_39.map Pr.c)) 2 58 [] rfl rfl (r_load_v rfl sz31 rfl rfl) (.inl rfl) (VK.t (v := .sl tk_6 (kids_5.map (cSl Pr.c))) 3 59 [] rfl rfl (t_move rfl rfl) (.inl rfl) ?_)))
              obtain ⟨c_40, hc_40, h⟩ := obind h
              refine VK.t (v := .vptr [.sl .fz (c_40.map Pr.c)]) 4 60 [3] rfl rfl (t_indexAddr rfl sl75 rfl (fun _ _ => rfl) (getI_some hc_40).1 (map_get (getI_some hc_40).2 rfl) rfl) (.inl rfl) (VK.r (v := .sl .fz (c_40.map Pr.c)) 5 61 [4] rfl rfl (r_load_v rfl sz31 rfl rfl) (.inl rfl) ?_)
              obtain ⟨rv_41, hx_42, h⟩ := obind h
              refine VK.w 6 62 [5] rfl rfl (w_keep rfl fn42 rfl ⟨_, _, rfl, rfl, rfl⟩ (set_outside_ok _ _ hx_42)) (.inl rfl) ?_
              obtain ⟨rv_43, hx_44, h⟩ := obind h
              refine VK.w 7 63 [2, 6] rfl rfl (w_keep rfl fn41 rfl ⟨_, _, rfl, rfl, _, _, rfl, rfl, rfl⟩ (set_common_ok _ _ _ hx_44)) (.inl rfl) (VK.t (v := .sl .fz (rv_43.map Pr.c)) 8 2 [7] rfl rfl (t_assign rfl rfl) (.inl rfl) (VK.done 0 rfl (by kernel_rfl) rfl (VA.done (by kernel_rfl) (thenQ_normal (VW.ret (blockQ_ret (thenQ_ret ?_)))))))
              cases oi h
              exact ret0 rfl rfl ⟨rfl, rfl⟩
            · replace h := iteF h hc_38
              refine VW.q (VO.t (v := .bool (a0.Op == 4)) (t_cmp rfl rfl rfl (fun _ _ => rfl) rfl) rfl rfl (VO.a (v := .bool (a0.Op == 4)) rfl rfl (VO.n (VW.k2 3 64 rfl ?_))))
              refine VW.cond (b := (a0.Op == 4)) rfl (fun hc_45 => ?_) (fun hc_45 => ?_)
              · replace h := iteT h hc_45
                refine VW.q (VO.t (v := .agg [.i (-1000000000000000), .i 1000000000000000]) (t_build_arr rfl av59 ⟨.i (-1000000000000000), _, rfl, (fun _ _ => rfl), rfl, .i 1000000000000000, _, rfl, (fun _ _ => rfl), rfl, rfl⟩ rfl) rfl rfl (VO.w (fun v H' => ∃ t_46, .sl (.cap t_46 2) (([Pr.mk (-1000000000000000) 1000000000000000]).map Pr.c) = v ∧ H' = hq [] ([.cap t_46 2, tk_6])) (w_buildSlice (l := [[.i (-1000000000000000), .i 1000000000000000]]) rfl el31 ⟨rfl, _, _, rfl, rfl, rfl, rfl, rfl⟩ rfl (nle rfl) (fun tk => ⟨tk, by simp only [List.map_cons, List.map_nil, Pr.c_eq], rfl⟩)) rfl rfl ?_))
                rintro _ _ ⟨t_46, rfl, rfl⟩
                refine VO.a (v := .sl (.cap t_46 2) (([Pr.mk (-1000000000000000) 1000000000000000]).map Pr.c)) rfl rfl (VO.n (VW.k1 2 rfl (VW.hsub (A := hq [] ([.cap t_46 2])) (hq_sub .slnil (.cons_cons _ (.cons _ .slnil))) (VW.ret (blockQ_ret (thenQ_ret ?_))))))
                obtain rfl := oi h
                exact ⟨.inr rfl, rfl, _, .sl .fz (([Pr.mk (-1000000000000000) 1000000000000000]).map Pr.c), hq [] [], rfl, VLe.sl _ _, hq_sub .slnil (.cons _ .slnil), rfl, rfl⟩
              · replace h := iteF h hc_45
                refine VW.skip (blockQ_normal (thenQ_normal (VW.k1 3 rfl (VW.q (VO.m rfl rfl ?_)))))
                obtain ⟨c_47, hc_47, h⟩ := obind h
                refine VO.t (v := .vptr [.sl .fz (c_47.map Pr.c)]) (t_indexAddr rfl sl75 rfl (fun _ _ => rfl) (getI_some hc_47).1 (map_get (getI_some hc_47).2 rfl) rfl) rfl rfl (VO.r (v := .sl .fz (c_47.map Pr.c)) (r_load_v rfl sz31 rfl rfl) rfl rfl (VO.a (v := .sl .fz (c_47.map Pr.c)) rfl rfl (VO.n (VW.ret ?_))))
                cases oi h
                exact ret0 rfl rfl ⟨rfl, rfl⟩

theorem set_Of_ok (a0 : Node) (r : List Pr × Int) (h : PL.set_Of a0 = some r) :
    VCalls Tryd.prog 7 [.agg (Node.l a0)] (hq [] []) (fun v H => .tup [.sl .fz (r.1.map Pr.c), .i r.2] = v ∧ H = hq [] []) := by
  unfold PL.set_Of at h
  refine VCalls.of_body 15 [2, 3] Tryd.func7 rfl rfl rfl (nle rfl) (VW.k1 0 rfl (VW.q (VO.w (fun v H' => ∃ ob_0, .ptr ob_0 0 = v ∧ H' = hq ([[(ob_0, .cells (Node.l a0))]]) []) (w_box_q rfl rfl rfl (fun ob => ⟨ob, rfl, rfl⟩)) rfl rfl ?_)))
  rintro _ _ ⟨ob_0, rfl, rfl⟩
  refine VO.a (v := .sl .nl []) rfl (fun _ _ => .inl ⟨rfl, .inl rfl⟩) (VO.a (v := .i 0) rfl (fun _ _ => rfl) (VO.n (VW.k1 1 rfl (VW.seq (VW.q (VO.r (v := .agg (Node.l a0)) (r_load_q (i := 0) rfl sz29 rfl rfl rfl) rfl rfl ?_))))))
  obtain ⟨rv_1, hx_2, h⟩ := obind h
  refine VO.k (w_keep rfl fn22 rfl ⟨_, _, rfl, rfl, rfl⟩ (set_check_ok _ _ hx_2)) rfl rfl (VO.a (v := .i rv_1) rfl rfl (VO.n (VW.k2 1 4 rfl (VW.q (VO.m rfl rfl (VO.t (v := .bool (rv_1 != 0)) (t_cmp rfl rfl rfl (fun _ _ => rfl) rfl) rfl rfl (VO.n (VW.k3 1 4 8 rfl ?_))))))))
  refine VW.cond (b := (rv_1 != 0)) rfl (fun hc_3 => ?_) (fun hc_3 => ?_)
  · replace h := iteT h hc_3
    refine VW.q (VO.m rfl rfl (VO.a (v := .sl .nl []) rfl (fun _ _ => .inl ⟨rfl, .inl rfl⟩) (VO.a (v := .i rv_1) rfl rfl (VO.n (VW.k2 2 3 rfl (VW.hsub (A := hq [] []) (hq_sub (.cons _ .slnil) .slnil) (VW.ret (thenQ_ret ?_))))))))
    obtain rfl := oi h
    exact ⟨.inr rfl, rfl, _, .tup [.sl .fz [], .i rv_1], hq [] [], ⟨_, _, rfl, rfl, rfl⟩, VLe.tup ⟨VLe.sl _ _, VLe.refl _, trivial⟩, hq_sub .slnil .slnil, rfl, rfl⟩
  · replace h := iteF h hc_3
    refine VW.skip (thenQ_normal (VW.k1 1 rfl (VW.q (VO.r (v := .agg (Node.l a0)) (r_load_q (i := 0) rfl sz29 rfl rfl rfl) rfl rfl ?_))))
    obtain ⟨rv_4, hx_5, h⟩ := obind h
    refine VO.k (w_keep rfl fn24 rfl ⟨_, _, rfl, rfl, rfl⟩ (set_value_ok _ _ hx_5)) rfl rfl ?_
    obtain ⟨⟨rv_6, rv_7⟩, hx_8, h⟩ := obind h
    try dsimp only at h
    refine VO.k (w_keep rfl fn23 rfl ⟨_, _, rfl, rfl, rfl⟩ (set_limited_ok _ _ hx_8)) rfl rfl (VO.t (v := .sl .fz (rv_6.map Pr.c)) (t_extract rfl rfl rfl) rfl rfl (VO.t (v := .i rv_7) (t_extract rfl rfl rfl) rfl rfl (VO.a (v := .sl .fz (rv_6.map Pr.c)) rfl rfl (VO.a (v := .i rv_7) rfl rfl (VO.n (VW.k2 2 3 rfl (VW.hsub (A := hq [] []) (hq_sub (.cons _ .slnil) .slnil) (VW.ret ?_))))))))
    obtain rfl := oi h
    exact ⟨.inr rfl, rfl, _, .tup [.sl .fz (rv_6.map Pr.c), .i rv_7], hq [] [], ⟨_, _, rfl, rfl, rfl⟩, VLe.tup ⟨VLe.refl _, VLe.refl _, trivial⟩, hq_sub .slnil .slnil, rfl, rfl⟩

theorem ref01_Pairs.l0_ok (a0 : List Pr) (a1 : List Pr) {Q : Exit → Env → HH → Prop} :
    ∀ (i_0 : Int) (o : Unit ⊕ Unit), PL.ref01_Pairs.l0 a0 a1 i_0 = some o →
    ∀ (hx0 : Sum.inl () = o → Q (.exit 0) ⟨[], []⟩ (hq [] [])) (hx1 : Sum.inr () = o → Q .ret ⟨[(4, .bool false)], []⟩ (hq [] [])), VW Tryd.prog 26 (codeAt [1, 1, 0, 1, 0, 0] (bodyOf Tryd.f9)) (thenQ (VL Tryd.prog 26 (codeAt [1, 1, 0, 1, 0, 0] (bodyOf Tryd.f9)) Q) Q) ⟨[(0, .sl .fz (a0.map Pr.c)), (1, .sl .fz (a1.map Pr.c)), (5, .i i_0)], []⟩ (hq [] []) := by
  refine PL.ref01_Pairs.l0.partial_correctness a0 a1 (motive := fun i_0 o => ∀ (hx0 : Sum.inl () = o → Q (.exit 0) ⟨[], []⟩ (hq [] [])) (hx1 : Sum.inr () = o → Q .ret ⟨[(4, .bool false)], []⟩ (hq [] [])), VW Tryd.prog 26 (codeAt [1, 1, 0, 1, 0, 0] (bodyOf Tryd.f9)) (thenQ (VL Tryd.prog 26 (codeAt [1, 1, 0, 1, 0, 0] (bodyOf Tryd.f9)) Q) Q) ⟨[(0, .sl .fz (a0.map Pr.c)), (1, .sl .fz (a1.map Pr.c)), (5, .i i_0)], []⟩ (hq [] [])) ?_
  intro _ ih i_0 o h hx0 hx1
  refine VW.seq (VW.q (VO.m rfl rfl (VO.m rfl rfl (VO.t (v := .i (a0.length : Int)) (t_len rfl ⟨_, Tryd.underlying31⟩ rfl (by rw [List.length_map])) rfl rfl (VO.t (v := .bool (decide (i_0 < (a0.length : Int)))) (t_cmp rfl rfl rfl rfl rfl) rfl rfl (VO.n (VW.k4 0 1 5 14 rfl ?_)))))))
  refine VW.cond (b := (decide (i_0 < (a0.length : Int)))) rfl (fun hc_1 => ?_) (fun hc_1 => ?_)
  · replace h := iteT h hc_1
    refine VW.skip (thenQ_normal (VW.k3 0 1 5 rfl (VW.seq (VW.block (VW.seq (VW.draw 9 mix rfl (VA.phase (g := 0) [0, 1, 2, 3, 4, 5, 6, 7, 8] 9 (VP.take (i := 0) rfl (TOp.r (t_move rfl rfl)) (.inl rfl) (by kernel_rfl) (VP.take (i := 1) rfl (TOp.r (t_move rfl rfl)) (.inl rfl) (by kernel_rfl) ?_)))))))))
    obtain ⟨c_2, hc_2, h⟩ := obind h
    refine VP.take (i := 2) (v := .vptr (Pr.c c_2)) rfl (TOp.r (t_indexAddr rfl sl31 rfl rfl (getI_some hc_2).1 (map_get (getI_some hc_2).2 (Pr.c_eq c_2)) rfl)) (.inl rfl) (by kernel_rfl) (VP.take (i := 3) (v := .agg (Pr.c c_2)) rfl (r_load_v rfl sz59 rfl rfl) (.inl rfl) (by kernel_rfl) (VP.take (i := 4) rfl (TOp.r (t_move rfl rfl)) (.inl rfl) (by kernel_rfl) (VP.take (i := 5) rfl (TOp.r (t_move rfl rfl)) (.inl rfl) (by kernel_rfl) ?_)))
    obtain ⟨c_3, hc_3, h⟩ := obind h
    refine VP.take (i := 6) (v := .vptr (Pr.c c_3)) rfl (TOp.r (t_indexAddr rfl sl31 rfl rfl (getI_some hc_3).1 (map_get (getI_some hc_3).2 (Pr.c_eq c_3)) rfl)) (.inl rfl) (by kernel_rfl) (VP.take (i := 7) (v := .agg (Pr.c c_3)) rfl (r_load_v rfl sz59 rfl rfl) (.inl rfl) (by kernel_rfl) (VP.take (i := 8) (v := .bool (!(c_2.x0 == c_3.x0 && c_2.x1 == c_3.x1))) rfl (TOp.r (t_ane rfl ae59 rfl rfl rfl)) (.inl rfl) (by kernel_rfl) (VP.done (by kernel_rfl) (VA.done (by kernel_rfl) (thenQ_normal (VW.k4 0 1 5 25 rfl ?_))))))
    refine VW.cond (b := (!(c_2.x0 == c_3.x0 && c_2.x1 == c_3.x1))) rfl (fun hc_4 => ?_) (fun hc_4 => ?_)
    · replace h := iteT h hc_4
      refine VW.q (VO.a (v := .bool false) rfl (fun _ _ => rfl) (VO.n (VW.k1 4 rfl (VW.k1 4 rfl (VW.ret (blockQ_ret (thenQ_ret (thenQ_ret ?_))))))))
      obtain rfl := oi h
      exact hx1  rfl
    · replace h := iteF h hc_4
      refine VW.skip (blockQ_normal (thenQ_normal (VW.k3 0 1 5 rfl (VW.region (VO.m rfl rfl (VO.t (v := .i (w64 (i_0 + 1))) (t_add rfl rfl (fun _ _ => rfl) rfl) rfl rfl (VO.a (v := .i (w64 (i_0 + 1))) rfl rfl (VO.nil (thenQ_normal (VL.round ?_))))))))))
      refine VW.k3 0 1 5 rfl ?_
      exact ih _ _ h hx0 hx1
  · replace h := iteF h hc_1
    refine VW.subN (t' := []) trivial rfl (VW.exit (thenQ_exit (thenQ_exit ?_)))
    obtain rfl := oi h
    exact hx0  rfl

theorem ref01_Pairs_ok (a0 : List Pr) (a1 : List Pr) (r : Bool) (h : PL.ref01_Pairs a0 a1 = some r) :
    VCalls Tryd.prog 9 [.sl .fz (a0.map Pr.c), .sl .fz (a1.map Pr.c)] (hq [] []) (fun v H => .bool r = v ∧ H = hq [] []) := by
  unfold PL.ref01_Pairs at h
  refine VCalls.of_body 26 [4] Tryd.func9 rfl rfl rfl (nle rfl) (VW.k2 0 1 rfl (VW.q (VO.a (v := .bool false) rfl (fun _ _ => rfl) (VO.n (VW.k2 0 1 rfl (VW.seq (VW.q (VO.m rfl rfl (VO.t (v := .i (a0.length : Int)) (t_len rfl ⟨_, Tryd.underlying31⟩ rfl (by rw [List.length_map])) rfl rfl ?_)))))))))
  refine VO.m rfl rfl (VO.t (v := .i (a1.length : Int)) (t_len rfl ⟨_, Tryd.underlying31⟩ rfl (by rw [List.length_map])) rfl rfl (VO.t (v := .bool ((a0.length : Int) != (a1.length : Int))) (t_cmp rfl rfl rfl rfl rfl) rfl rfl (VO.n (VW.k3 0 1 10 rfl ?_))))
  refine VW.cond (b := ((a0.length : Int) != (a1.length : Int))) rfl (fun hc_0 => ?_) (fun hc_0 => ?_)
  · replace h := iteT h hc_0
    refine VW.q (VO.a (v := .bool false) rfl (fun _ _ => rfl) (VO.n (VW.ret (thenQ_ret ?_))))
    cases oi h
    exact ret0 rfl rfl ⟨rfl, rfl⟩
  · replace h := iteF h hc_0
    refine VW.skip (thenQ_normal (VW.k2 0 1 rfl (VW.seq (VW.q (VO.a (v := .i 0) rfl (fun _ _ => rfl) (VO.n (VW.block (VW.k3 0 1 5 rfl ?_))))))))
    obtain ⟨o_1, hx_2, h⟩ := obind h
    refine VW.loopL (ref01_Pairs.l0_ok a0 a1 _ _ hx_2 ?_ ?_)
    · intro ho_
      subst ho_
      try dsimp only at h
      refine blockQ_hit (thenQ_normal (VW.q (VO.a (v := .bool true) rfl (fun _ _ => rfl) (VO.n (VW.ret ?_)))))
      cases oi h
      exact ret0 rfl rfl ⟨rfl, rfl⟩
    · intro ho_
      subst ho_
      try dsimp only at h
      refine blockQ_ret (thenQ_ret ?_)
      obtain rfl := oi h
      exact ⟨.inr rfl, rfl, _, .bool false, hq [] [], rfl, VLe.refl _, hq_sub .slnil .slnil, rfl, rfl⟩

theorem set_Valid.l0_ok (a0 : List Pr) {Q : Exit → Env → HH → Prop} :
    ∀ (x_0 : Int) (o : Unit ⊕ Unit), PL.set_Valid.l0 a0 x_0 = some o →
    ∀ (hx0 : Sum.inl () = o → Q (.exit 0) ⟨[(0, .sl .fz (a0.map Pr.c))], []⟩ (hq [] [])) (hx1 : Sum.inr () = o → Q .ret ⟨[(2, .bool false)], []⟩ (hq [] [])), VW Tryd.prog 47 (codeAt [1, 0, 1, 0, 0] (bodyOf Tryd.f36)) (thenQ (VL Tryd.prog 47 (codeAt [1, 0, 1, 0, 0] (bodyOf Tryd.f36)) Q) Q) ⟨[(0, .sl .fz (a0.map Pr.c)), (5, .sl .fz (a0.map Pr.c)), (6, .i (a0.length : Int)), (7, .i x_0)], []⟩ (hq [] []) := by
  refine PL.set_Valid.l0.partial_correctness a0 (motive := fun x_0 o => ∀ (hx0 : Sum.inl () = o → Q (.exit 0) ⟨[(0, .sl .fz (a0.map Pr.c))], []⟩ (hq [] [])) (hx1 : Sum.inr () = o → Q .ret ⟨[(2, .bool false)], []⟩ (hq [] [])), VW Tryd.prog 47 (codeAt [1, 0, 1, 0, 0] (bodyOf Tryd.f36)) (thenQ (VL Tryd.prog 47 (codeAt [1, 0, 1, 0, 0] (bodyOf Tryd.f36)) Q) Q) ⟨[(0, .sl .fz (a0.map Pr.c)), (5, .sl .fz (a0.map Pr.c)), (6, .i (a0.length : Int)), (7, .i x_0)], []⟩ (hq [] [])) ?_
  intro _ ih x_0 o h hx0 hx1
  refine VW.q (VO.t (v := .bool (decide (x_0 < (a0.length : Int)))) (t_cmp rfl rfl rfl rfl rfl) rfl rfl (VO.n (VW.seq ?_)))
  refine VW.cond (b := (decide (x_0 < (a0.length : Int)))) rfl (fun hc_1 => ?_) (fun hc_1 => ?_)
  · replace h := iteT h hc_1
    refine VW.skip (thenQ_normal (VW.k4 0 5 6 7 rfl (VW.seq (VW.block (VW.q (VO.m rfl rfl ?_))))))
    obtain ⟨c_2, hc_2, h⟩ := obind h
    refine VO.t (v := .vptr (Pr.c c_2)) (t_indexAddr rfl sl31 rfl rfl (getI_some hc_2).1 (map_get (getI_some hc_2).2 (Pr.c_eq c_2)) rfl) rfl rfl (VO.r (v := .agg (Pr.c c_2)) (r_load_v rfl sz59 rfl rfl) rfl rfl (VO.w (fun v H' => ∃ ob_3, .ptr ob_3 0 = v ∧ H' = hq ([[(ob_3, .cells [.i 0, .i 0])]]) []) (w_alloc_q rfl zt59 (fun ob => ⟨ob, rfl, rfl⟩)) rfl rfl ?_))
    rintro _ _ ⟨ob_3, rfl, rfl⟩
    refine VO.a (v := .i x_0) rfl rfl (VO.w (fun v H' => .any = v ∧ H' = hq ([[(ob_3, .cells (Pr.c c_2))]]) []) (w_store_q (i := 0) rfl sz59 rfl rfl rfl rfl rfl (nle rfl) ⟨rfl, rfl⟩) rfl rfl ?_)
    rintro _ _ ⟨rfl, rfl⟩
    refine VO.n (VW.k6 0 5 6 7 4 3 rfl (VW.seq (VW.draw 31 mix rfl (VA.phase (g := 25) [0, 1, 2, 3, 4, 5] 6 (VP.take (i := 0) (v := .ptr ob_3 0) rfl (TOp.r (t_indexAddr_parr rfl ar59 rfl (fun _ _ => rfl) (by decide) (by decide) rfl)) (.inl rfl) (by kernel_rfl) (VP.take (i := 1) (v := .i c_2.x0) rfl (r_load_q (i := 0) rfl sz3 rfl rfl rfl) (.inl rfl) (by kernel_rfl) (VP.take (i := 2) (v := .ptr ob_3 1) rfl (TOp.r (t_indexAddr_parr rfl ar59 rfl (fun _ _ => rfl) (by decide) (by decide) rfl)) (.inl rfl) (by kernel_rfl) (VP.take (i := 3) (v := .i c_2.x1) rfl (r_load_q (i := 0) rfl sz3 rfl rfl rfl) (.inl rfl) (by kernel_rfl) (VP.take (i := 4) (v := .bool (decide (c_2.x0 > c_2.x1))) rfl (TOp.r (t_cmp rfl rfl rfl rfl rfl)) (.inl rfl) (by kernel_rfl) ?_)))))))))
    refine VP.take (i := 5) rfl (TOp.r (t_move rfl rfl)) (.inl rfl) (by kernel_rfl) (VP.done (by kernel_rfl) ?_)
    refine VA.caseB (d := 17) (b := (decide (c_2.x0 > c_2.x1))) rfl (fun hc_4 => ?_) (fun hc_4 => ?_)
    · replace h := iteT h hc_4
      refine VA.s 6 rfl (by kernel_rfl) (VA.s 7 rfl (by kernel_rfl) (VA.s 8 rfl (by kernel_rfl) (VA.t (i := 9) (v := .bool true) rfl (t_pick (b := true) rfl rfl (fun _ => (fun _ _ => rfl)) (fun h => by cases h)) (.inl rfl) (by kernel_rfl) (VA.t (i := 10) rfl (t_move rfl rfl) (.inl rfl) (by kernel_rfl) (VA.s 11 rfl (by kernel_rfl) (VA.s 12 rfl (by kernel_rfl) (VA.s 13 rfl (by kernel_rfl) (VA.t (i := 14) (v := .bool true) rfl (t_pick (b := true) rfl rfl (fun _ => (fun _ _ => rfl)) (fun h => by cases h)) (.inl rfl) (by kernel_rfl) (VA.t (i := 15) rfl (t_move rfl rfl) (.inl rfl) (by kernel_rfl) ?_)))))))))
      refine VA.s 16 rfl (by kernel_rfl) (VA.s 17 rfl (by kernel_rfl) (VA.s 18 rfl (by kernel_rfl) (VA.s 19 rfl (by kernel_rfl) (VA.s 20 rfl (by kernel_rfl) (VA.s 21 rfl (by kernel_rfl) (VA.s 22 rfl (by kernel_rfl) (VA.s 23 rfl (by kernel_rfl) (VA.s 24 rfl (by kernel_rfl) (VA.s 25 rfl (by kernel_rfl) ?_)))))))))
      refine VA.s 26 rfl (by kernel_rfl) (VA.s 27 rfl (by kernel_rfl) (VA.s 28 rfl (by kernel_rfl) (VA.s 29 rfl (by kernel_rfl) (VA.t (i := 30) (v := .bool true) rfl (t_pick (b := true) rfl rfl (fun _ => (fun _ _ => rfl)) (fun h => by cases h)) (.inl rfl) (by kernel_rfl) (VA.done (by kernel_rfl) (thenQ_normal (VW.subK (.c 0 rfl (.c 5 rfl (.c 6 rfl (.c 7 rfl (.c 18 rfl (.c 19 rfl (.c 20 rfl (.c 23 rfl (.c 24 rfl (.c 25 rfl (.c 28 rfl (.c 29 rfl (.c 30 rfl (.c 31 rfl (.c 32 rfl (.c 33 rfl (.c 34 rfl (.c 35 rfl (.c 36 rfl (.c 37 rfl (.c 38 rfl (.c 39 rfl (.c 40 rfl (.c 41 rfl (.c 42 rfl .n))))))))))))))))))))))))) rfl (VW.hsub (A := hq [] []) (hq_sub (.cons _ .slnil) .slnil) (VW.condT rfl ?_)))))))))
      refine VW.q (VO.a (v := .bool false) rfl (fun _ _ => rfl) (VO.n (VW.k1 2 rfl (VW.k1 2 rfl (VW.ret (blockQ_ret (thenQ_ret (thenQ_ret ?_))))))))
      obtain rfl := oi h
      exact hx1  rfl
    · replace h := iteF h hc_4
      refine VA.phase (g := 20) [6, 7, 8, 9, 10] 5 (VP.take (i := 6) (v := .ptr ob_3 0) rfl (TOp.r (t_indexAddr_parr rfl ar59 rfl (fun _ _ => rfl) (by decide) (by decide) rfl)) (.inr ⟨_, _, _, rfl, rfl, rfl⟩) (by kernel_rfl) (VP.take (i := 7) (v := .i c_2.x0) rfl (r_load_q (i := 0) rfl sz3 rfl rfl rfl) (.inr ⟨_, _, _, rfl, rfl, rfl⟩) (by kernel_rfl) (VP.take (i := 8) (v := .bool (decide (c_2.x0 < (-1000000000000000)))) rfl (TOp.r (t_cmp rfl rfl rfl (fun _ _ => rfl) rfl)) (.inr ⟨_, _, _, rfl, rfl, rfl⟩) (by kernel_rfl) (VP.take (i := 9) (v := .bool (decide (c_2.x0 < (-1000000000000000)))) rfl (TOp.r (t_pick (b := false) rfl rfl (fun h => by cases h) (fun _ => rfl))) (.inl rfl) (by kernel_rfl) (VP.take (i := 10) rfl (TOp.r (t_move rfl rfl)) (.inl rfl) (by kernel_rfl) (VP.done (by kernel_rfl) ?_))))))
      refine VA.caseB (d := 22) (b := (decide (c_2.x0 < (-1000000000000000)))) rfl (fun hc_5 => ?_) (fun hc_5 => ?_)
      · replace h := iteT h hc_5
        refine VA.s 11 rfl (by kernel_rfl) (VA.s 12 rfl (by kernel_rfl) (VA.s 13 rfl (by kernel_rfl) (VA.t (i := 14) (v := .bool true) rfl (t_pick (b := true) rfl rfl (fun _ => (fun _ _ => rfl)) (fun h => by cases h)) (.inl rfl) (by kernel_rfl) (VA.t (i := 15) rfl (t_move rfl rfl) (.inl rfl) (by kernel_rfl) (VA.s 16 rfl (by kernel_rfl) (VA.s 17 rfl (by kernel_rfl) (VA.s 18 rfl (by kernel_rfl) (VA.s 19 rfl (by kernel_rfl) (VA.s 20 rfl (by kernel_rfl) ?_)))))))))
        refine VA.s 21 rfl (by kernel_rfl) (VA.s 22 rfl (by kernel_rfl) (VA.s 23 rfl (by kernel_rfl) (VA.s 24 rfl (by kernel_rfl) (VA.s 25 rfl (by kernel_rfl) (VA.s 26 rfl (by kernel_rfl) (VA.s 27 rfl (by kernel_rfl) (VA.s 28 rfl (by kernel_rfl) (VA.s 29 rfl (by kernel_rfl) (VA.t (i := 30) (v := .bool true) rfl (t_pick (b := true) rfl rfl (fun _ => (fun _ _ => rfl)) (fun h => by cases h)) (.inl rfl) (by kernel_rfl) ?_)))))))))
        refine VA.done (by kernel_rfl) (thenQ_normal (VW.subK (.c 0 rfl (.c 5 rfl (.c 6 rfl (.c 7 rfl (.c 18 rfl (.c 19 rfl (.c 20 rfl (.c 23 rfl (.c 24 rfl (.c 25 rfl (.c 28 rfl (.c 29 rfl (.c 30 rfl (.c 31 rfl (.c 32 rfl (.c 33 rfl (.c 34 rfl (.c 35 rfl (.c 36 rfl (.c 37 rfl (.c 38 rfl (.c 39 rfl (.c 40 rfl (.c 41 rfl (.c 42 rfl .n))))))))))))))))))))))))) rfl (VW.condT rfl (VW.q (VO.a (v := .bool false) rfl (fun _ _ => rfl) (VO.n (VW.k1 2 rfl (VW.hsub (A := hq [] []) (hq_sub (.cons _ .slnil) .slnil) (VW.k1 2 rfl ?_)))))))))
        refine VW.ret (blockQ_ret (thenQ_ret (thenQ_ret ?_)))
        obtain rfl := oi h
        exact hx1  rfl
      · replace h := iteF h hc_5
        refine VA.phase (g := 15) [11, 12, 13, 14, 15] 5 (VP.take (i := 11) (v := .ptr ob_3 1) rfl (TOp.r (t_indexAddr_parr rfl ar59 rfl (fun _ _ => rfl) (by decide) (by decide) rfl)) (.inr ⟨_, _, _, rfl, rfl, rfl⟩) (by kernel_rfl) (VP.take (i := 12) (v := .i c_2.x1) rfl (r_load_q (i := 0) rfl sz3 rfl rfl rfl) (.inr ⟨_, _, _, rfl, rfl, rfl⟩) (by kernel_rfl) (VP.take (i := 13) (v := .bool (decide (c_2.x1 > 1000000000000000))) rfl (TOp.r (t_cmp rfl rfl rfl (fun _ _ => rfl) rfl)) (.inr ⟨_, _, _, rfl, rfl, rfl⟩) (by kernel_rfl) (VP.take (i := 14) (v := .bool (decide (c_2.x1 > 1000000000000000))) rfl (TOp.r (t_pick (b := false) rfl rfl (fun h => by cases h) (fun _ => rfl))) (.inl rfl) (by kernel_rfl) (VP.take (i := 15) rfl (TOp.r (t_move rfl rfl)) (.inl rfl) (by kernel_rfl) (VP.done (by kernel_rfl) ?_))))))
        refine VA.caseB (d := 27) (b := (decide (c_2.x1 > 1000000000000000))) rfl (fun hc_6 => ?_) (fun hc_6 => ?_)
        · replace h := iteT h hc_6
          refine VA.s 16 rfl (by kernel_rfl) (VA.s 17 rfl (by kernel_rfl) (VA.s 18 rfl (by kernel_rfl) (VA.s 19 rfl (by kernel_rfl) (VA.s 20 rfl (by kernel_rfl) (VA.s 21 rfl (by kernel_rfl) (VA.s 22 rfl (by kernel_rfl) (VA.s 23 rfl (by kernel_rfl) (VA.s 24 rfl (by kernel_rfl) (VA.s 25 rfl (by kernel_rfl) ?_)))))))))
          refine VA.s 26 rfl (by kernel_rfl) (VA.s 27 rfl (by kernel_rfl) (VA.s 28 rfl (by kernel_rfl) (VA.s 29 rfl (by kernel_rfl) (VA.t (i := 30) (v := .bool true) rfl (t_pick (b := true) rfl rfl (fun _ => (fun _ _ => rfl)) (fun h => by cases h)) (.inl rfl) (by kernel_rfl) (VA.done (by kernel_rfl) (thenQ_normal (VW.subK (.c 0 rfl (.c 5 rfl (.c 6 rfl (.c 7 rfl (.c 18 rfl (.c 19 rfl (.c 20 rfl (.c 23 rfl (.c 24 rfl (.c 25 rfl (.c 28 rfl (.c 29 rfl (.c 30 rfl (.c 31 rfl (.c 32 rfl (.c 33 rfl (.c 34 rfl (.c 35 rfl (.c 36 rfl (.c 37 rfl (.c 38 rfl (.c 39 rfl (.c 40 rfl (.c 41 rfl (.c 42 rfl .n))))))))))))))))))))))))) rfl (VW.condT rfl (VW.q ?_)))))))))
          refine VO.a (v := .bool false) rfl (fun _ _ => rfl) (VO.n (VW.k1 2 rfl (VW.hsub (A := hq [] []) (hq_sub (.cons _ .slnil) .slnil) (VW.k1 2 rfl (VW.ret (blockQ_ret (thenQ_ret (thenQ_ret ?_))))))))
          obtain rfl := oi h
          exact hx1  rfl
        · replace h := iteF h hc_6
          refine VA.t (i := 16) rfl (t_move rfl rfl) (.inr ⟨_, _, _, rfl, rfl, rfl⟩) (by kernel_rfl) (VA.t (i := 17) (v := .bool (decide (x_0 > 0))) rfl (t_cmp rfl rfl rfl (fun _ _ => rfl) rfl) (.inr ⟨_, _, _, rfl, rfl, rfl⟩) (by kernel_rfl) (VA.t (i := 18) rfl (t_move rfl rfl) (.inr ⟨_, _, _, rfl, rfl, rfl⟩) (by kernel_rfl) ?_))
          refine VA.caseB (d := 30) (b := (decide (x_0 > 0))) rfl (fun hc_7 => ?_) (fun hc_7 => ?_)
          · replace h := iteT h hc_7
            refine VA.phase (g := 0) [19, 20, 21, 22, 23, 24, 25, 26, 27, 28, 29, 30] 12 (VP.take (i := 19) (v := .ptr ob_3 0) rfl (TOp.r (t_indexAddr_parr rfl ar59 rfl (fun _ _ => rfl) (by decide) (by decide) rfl)) (.inr ⟨_, _, _, rfl, rfl, rfl⟩) (by kernel_rfl) (VP.take (i := 20) (v := .i c_2.x0) rfl (r_load_q (i := 0) rfl sz3 rfl rfl rfl) (.inr ⟨_, _, _, rfl, rfl, rfl⟩) (by kernel_rfl) (VP.take (i := 21) rfl (TOp.r (t_move rfl rfl)) (.inr ⟨_, _, _, rfl, rfl, rfl⟩) (by kernel_rfl) (VP.take (i := 22) rfl (TOp.r (t_move rfl rfl)) (.inr ⟨_, _, _, rfl, rfl, rfl⟩) (by kernel_rfl) (VP.take (i := 23) (v := .i (w64 (x_0 - 1))) rfl (TOp.r (t_sub rfl rfl (fun _ _ => rfl) rfl)) (.inr ⟨_, _, _, rfl, rfl, rfl⟩) (by kernel_rfl) ?_)))))
            obtain ⟨c_8, hc_8, h⟩ := obind h
            refine VP.take (i := 24) (v := .vptr (Pr.c c_8)) rfl (TOp.r (t_indexAddr rfl sl31 rfl rfl (getI_some hc_8).1 (map_get (getI_some hc_8).2 (Pr.c_eq c_8)) rfl)) (.inr ⟨_, _, _, rfl, rfl, rfl⟩) (by kernel_rfl) (VP.take (i := 25) (v := .vptr [.i c_8.x1]) rfl (TOp.r (t_indexAddr_arr rfl ar59 rfl (fun _ _ => rfl) (by decide) (by decide) rfl)) (.inr ⟨_, _, _, rfl, rfl, rfl⟩) (by kernel_rfl) (VP.take (i := 26) (v := .i c_8.x1) rfl (r_load_v rfl sz3 rfl rfl) (.inr ⟨_, _, _, rfl, rfl, rfl⟩) (by kernel_rfl) (VP.take (i := 27) (v := .i (w64 (c_2.x0 - c_8.x1))) rfl (TOp.r (t_sub rfl rfl rfl rfl)) (.inr ⟨_, _, _, rfl, rfl, rfl⟩) (by kernel_rfl) (VP.take (i := 28) (v := .bool (decide ((w64 (c_2.x0 - c_8.x1)) < 2))) rfl (TOp.r (t_cmp rfl rfl rfl (fun _ _ => rfl) rfl)) (.inr ⟨_, _, _, rfl, rfl, rfl⟩) (by kernel_rfl) (VP.take (i := 29) (v := .bool (decide ((w64 (c_2.x0 - c_8.x1)) < 2))) rfl (TOp.r (t_pick (b := true) rfl rfl (fun _ => rfl) (fun h => by cases h))) (.inr ⟨_, _, _, rfl, rfl, rfl⟩) (by kernel_rfl) (VP.take (i := 30) (v := .bool (decide ((w64 (c_2.x0 - c_8.x1)) < 2))) rfl (TOp.r (t_pick (b := false) rfl rfl (fun h => by cases h) (fun _ => rfl))) (.inl rfl) (by kernel_rfl) (VP.done (by kernel_rfl) (VA.done (by kernel_rfl) (thenQ_normal ?_)))))))))
            refine VW.subK (.c 0 rfl (.c 5 rfl (.c 6 rfl (.c 7 rfl (.c 18 rfl (.c 19 rfl (.c 20 rfl (.c 23 rfl (.c 24 rfl (.c 25 rfl (.c 28 rfl (.c 29 rfl (.c 30 rfl (.c 31 rfl (.c 32 rfl (.c 33 rfl (.c 34 rfl (.c 35 rfl (.c 36 rfl (.c 37 rfl (.c 38 rfl (.c 39 rfl (.c 40 rfl (.c 41 rfl (.c 42 rfl .n))))))))))))))))))))))))) rfl ?_
            refine VW.cond (b := (decide ((w64 (c_2.x0 - c_8.x1)) < 2))) rfl (fun hc_9 => ?_) (fun hc_9 => ?_)
            · replace h := iteT h hc_9
              refine VW.q (VO.a (v := .bool false) rfl (fun _ _ => rfl) (VO.n (VW.k1 2 rfl (VW.hsub (A := hq [] []) (hq_sub (.cons _ .slnil) .slnil) (VW.k1 2 rfl (VW.ret (blockQ_ret (thenQ_ret (thenQ_ret ?_)))))))))
              obtain rfl := oi h
              exact hx1  rfl
            · replace h := iteF h hc_9
              refine VW.skip (blockQ_normal (thenQ_normal (VW.subK (.c 0 rfl (.c 5 rfl (.c 6 rfl (.c 7 rfl (.c 18 rfl (.c 19 rfl (.c 20 rfl (.c 23 rfl (.c 24 rfl (.c 25 rfl (.c 28 rfl (.c 29 rfl (.c 30 rfl (.c 31 rfl (.c 32 rfl (.c 33 rfl (.c 34 rfl (.c 35 rfl (.c 36 rfl (.c 37 rfl (.c 38 rfl (.c 39 rfl (.c 40 rfl (.c 41 rfl .n)))))))))))))))))))))))) rfl (VW.region (VO.t (v := .i (w64 (x_0 + 1))) (t_add rfl rfl (fun _ _ => rfl) rfl) rfl rfl (VO.m rfl rfl (VO.nil (thenQ_normal (VL.round ?_)))))))))
              refine VW.k4 0 5 6 7 rfl (VW.hsub (A := hq [] []) (hq_sub (.cons _ .slnil) .slnil) ?_)
              exact ih _ _ h hx0 hx1
          · replace h := iteF h hc_7
            refine VA.s 19 rfl (by kernel_rfl) (VA.s 20 rfl (by kernel_rfl) (VA.s 21 rfl (by kernel_rfl) (VA.s 22 rfl (by kernel_rfl) (VA.s 23 rfl (by kernel_rfl) (VA.s 24 rfl (by kernel_rfl) (VA.s 25 rfl (by kernel_rfl) (VA.s 26 rfl (by kernel_rfl) (VA.s 27 rfl (by kernel_rfl) (VA.s 28 rfl (by kernel_rfl) ?_)))))))))
            refine VA.t (i := 29) (v := .bool false) rfl (t_pick (b := false) rfl rfl (fun h => by cases h) (fun _ => (fun _ _ => rfl))) (.inr ⟨_, _, _, rfl, rfl, rfl⟩) (by kernel_rfl) (VA.t (i := 30) (v := .bool false) rfl (t_pick (b := false) rfl rfl (fun h => by cases h) (fun _ => rfl)) (.inl rfl) (by kernel_rfl) (VA.done (by kernel_rfl) (thenQ_normal (VW.subK (.c 0 rfl (.c 5 rfl (.c 6 rfl (.c 7 rfl (.c 18 rfl (.c 19 rfl (.c 20 rfl (.c 23 rfl (.c 24 rfl (.c 25 rfl (.c 28 rfl (.c 29 rfl (.c 30 rfl (.c 31 rfl (.c 32 rfl (.c 33 rfl (.c 34 rfl (.c 35 rfl (.c 36 rfl (.c 37 rfl (.c 38 rfl (.c 39 rfl (.c 40 rfl (.c 41 rfl (.c 42 rfl .n))))))))))))))))))))))))) rfl (VW.condF rfl (VW.skip (blockQ_normal (thenQ_normal (VW.subK (.c 0 rfl (.c 5 rfl (.c 6 rfl (.c 7 rfl (.c 18 rfl (.c 19 rfl (.c 20 rfl (.c 23 rfl (.c 24 rfl (.c 25 rfl (.c 28 rfl (.c 29 rfl (.c 30 rfl (.c 31 rfl (.c 32 rfl (.c 33 rfl (.c 34 rfl (.c 35 rfl (.c 36 rfl (.c 37 rfl (.c 38 rfl (.c 39 rfl (.c 40 rfl (.c 41 rfl .n)))))))))))))))))))))))) rfl ?_)))))))))
            refine VW.region (VO.t (v := .i (w64 (x_0 + 1))) (t_add rfl rfl (fun _ _ => rfl) rfl) rfl rfl (VO.m rfl rfl (VO.nil (thenQ_normal (VL.round ?_)))))
            refine VW.k4 0 5 6 7 rfl (VW.hsub (A := hq [] []) (hq_sub (.cons _ .slnil) .slnil) ?_)
            exact ih _ _ h hx0 hx1
  · replace h := iteF h hc_1
    refine VW.k1 0 rfl (VW.exit (thenQ_exit (thenQ_exit ?_)))
    obtain rfl := oi h
    exact hx0  rfl

theorem set_Valid_ok (a0 : List Pr) (r : Bool) (h : PL.set_Valid a0 = some r) :
    VCalls Tryd.prog 36 [.sl .fz (a0.map Pr.c)] (hq [] []) (fun v H => .bool r = v ∧ H = hq [] []) := by
  unfold PL.set_Valid at h
  refine VCalls.of_body 47 [2] Tryd.func36 rfl rfl rfl (nle rfl) (VW.k1 0 rfl (VW.q (VO.a (v := .bool false) rfl (fun _ _ => rfl) (VO.n (VW.k1 0 rfl (VW.seq (VW.q (VO.m rfl rfl (VO.t (v := .i (a0.length : Int)) (t_len rfl ⟨_, Tryd.underlying31⟩ rfl (by rw [List.length_map])) rfl rfl ?_)))))))))
  refine VO.m (v := .i 0) rfl (fun _ _ => rfl) (VO.n (VW.block (VW.k4 0 5 6 7 rfl ?_)))
  obtain ⟨o_0, hx_1, h⟩ := obind h
  refine VW.loopL (set_Valid.l0_ok a0 _ _ hx_1 ?_ ?_)
  · intro ho_
    subst ho_
    try dsimp only at h
    refine blockQ_hit (thenQ_normal (VW.q (VO.m rfl rfl (VO.t (v := .i (a0.length : Int)) (t_len rfl ⟨_, Tryd.underlying31⟩ rfl (by rw [List.length_map])) rfl rfl (VO.t (v := .bool (decide ((a0.length : Int) ≤ 100))) (t_cmp rfl rfl rfl (fun _ _ => rfl) rfl) rfl rfl (VO.a (v := .bool (decide ((a0.length : Int) ≤ 100))) rfl rfl (VO.n (VW.ret ?_))))))))
    cases oi h
    exact ret0 rfl rfl ⟨rfl, rfl⟩
  · intro ho_
    subst ho_
    try dsimp only at h
    refine blockQ_ret (thenQ_ret ?_)
    obtain rfl := oi h
    exact ⟨.inr rfl, rfl, _, .bool false, hq [] [], rfl, VLe.refl _, hq_sub .slnil .slnil, rfl, rfl⟩

theorem set_Size.l0_ok (a0 : List Pr) {Q : Exit → Env → HH → Prop} :
    ∀ (n_0 : Int) (x_1 : Int) (o : Int), PL.set_Size.l0 a0 n_0 x_1 = some o →
    ∀ (hx0 : ∀ (n_2 : Int), n_2 = o → Q (.exit 0) ⟨[(4, .i n_2)], []⟩ (hq [] [])), VW Tryd.prog 26 (codeAt [1, 1, 1, 0, 1, 0, 0] (bodyOf Tryd.f21)) (thenQ (VL Tryd.prog 26 (codeAt [1, 1, 1, 0, 1, 0, 0] (bodyOf Tryd.f21)) Q) Q) ⟨[(4, .i n_0), (10, .sl .fz (a0.map Pr.c)), (11, .i (a0.length : Int)), (12, .i x_1)], []⟩ (hq [] []) := by
  refine PL.set_Size.l0.partial_correctness a0 (motive := fun n_0 x_1 o => ∀ (hx0 : ∀ (n_2 : Int), n_2 = o → Q (.exit 0) ⟨[(4, .i n_2)], []⟩ (hq [] [])), VW Tryd.prog 26 (codeAt [1, 1, 1, 0, 1, 0, 0] (bodyOf Tryd.f21)) (thenQ (VL Tryd.prog 26 (codeAt [1, 1, 1, 0, 1, 0, 0] (bodyOf Tryd.f21)) Q) Q) ⟨[(4, .i n_0), (10, .sl .fz (a0.map Pr.c)), (11, .i (a0.length : Int)), (12, .i x_1)], []⟩ (hq [] [])) ?_
  intro _ ih n_0 x_1 o h hx0
  refine VW.q (VO.t (v := .bool (decide (x_1 < (a0.length : Int)))) (t_cmp rfl rfl rfl rfl rfl) rfl rfl (VO.n (VW.seq ?_)))
  refine VW.cond (b := (decide (x_1 < (a0.length : Int)))) rfl (fun hc_3 => ?_) (fun hc_3 => ?_)
  · replace h := iteT h hc_3
    refine VW.skip (thenQ_normal (VW.k4 4 10 11 12 rfl (VW.seq (VW.block (VW.q ?_)))))
    obtain ⟨c_4, hc_4, h⟩ := obind h
    refine VO.t (v := .vptr (Pr.c c_4)) (t_indexAddr rfl sl31 rfl rfl (getI_some hc_4).1 (map_get (getI_some hc_4).2 (Pr.c_eq c_4)) rfl) rfl rfl (VO.r (v := .agg (Pr.c c_4)) (r_load_v rfl sz59 rfl rfl) rfl rfl (VO.w (fun v H' => ∃ ob_5, .ptr ob_5 0 = v ∧ H' = hq ([[(ob_5, .cells [.i 0, .i 0])]]) []) (w_alloc_q rfl zt59 (fun ob => ⟨ob, rfl, rfl⟩)) rfl rfl ?_))
    rintro _ _ ⟨ob_5, rfl, rfl⟩
    refine VO.w (fun v H' => .any = v ∧ H' = hq ([[(ob_5, .cells (Pr.c c_4))]]) []) (w_store_q (i := 0) rfl sz59 rfl rfl rfl rfl rfl (nle rfl) ⟨rfl, rfl⟩) rfl rfl ?_
    rintro _ _ ⟨rfl, rfl⟩
    refine VO.n (VW.k5 4 10 11 12 6 rfl (VW.region (VO.m rfl rfl (VO.t (v := .ptr ob_5 1) (t_indexAddr_parr rfl ar59 rfl (fun _ _ => rfl) (by decide) (by decide) rfl) rfl rfl (VO.r (v := .i c_4.x1) (r_load_q (i := 0) rfl sz3 rfl rfl rfl) rfl rfl (VO.t (v := .ptr ob_5 0) (t_indexAddr_parr rfl ar59 rfl (fun _ _ => rfl) (by decide) (by decide) rfl) rfl rfl (VO.r (v := .i c_4.x0) (r_load_q (i := 0) rfl sz3 rfl rfl rfl) rfl rfl (VO.t (v := .i (w64 (c_4.x1 - c_4.x0))) (t_sub rfl rfl rfl rfl) rfl rfl (VO.t (v := .i (w64 ((w64 (c_4.x1 - c_4.x0)) + 1))) (t_add rfl rfl (fun _ _ => rfl) rfl) rfl rfl ?_)))))))))
    refine VO.t (v := .i (w64 (n_0 + (w64 ((w64 (c_4.x1 - c_4.x0)) + 1))))) (t_add rfl rfl rfl rfl) rfl rfl (VO.a (v := .i (w64 (n_0 + (w64 ((w64 (c_4.x1 - c_4.x0)) + 1))))) rfl rfl (VO.nil (blockQ_normal (thenQ_normal (VW.k4 10 11 12 4 rfl (VW.hsub (A := hq [] []) (hq_sub (.cons _ .slnil) .slnil) (VW.region (VO.t (v := .i (w64 (x_1 + 1))) (t_add rfl rfl (fun _ _ => rfl) rfl) rfl rfl (VO.m rfl rfl ?_)))))))))
    refine VO.nil (thenQ_normal (VL.round ?_))
    refine VW.k4 4 10 11 12 rfl ?_
    exact ih _ _ _ h hx0
  · replace h := iteF h hc_3
    refine VW.k1 4 rfl (VW.exit (thenQ_exit (thenQ_exit ?_)))
    obtain rfl := oi h
    exact hx0 _ rfl

theorem set_Size_ok (a0 : List Pr) (r : Int × Int) (h : PL.set_Size a0 = some r) :
    VCalls Tryd.prog 21 [.sl .fz (a0.map Pr.c)] (hq [] []) (fun v H => .tup [.i r.1, .i r.2] = v ∧ H = hq [] []) := by
  unfold PL.set_Size at h
  refine VCalls.of_body 26 [2, 3] Tryd.func21 rfl rfl rfl (nle rfl) (VW.k1 0 rfl (VW.q (VO.a (v := .i 0) rfl (fun _ _ => rfl) (VO.a (v := .i 0) rfl (fun _ _ => rfl) (VO.n (VW.k1 0 rfl (VW.seq (VW.q (VO.m rfl rfl ?_)))))))))
  obtain ⟨rv_0, hx_1, h⟩ := obind h
  refine VO.k (w_keep rfl fn36 rfl ⟨_, _, rfl, rfl, rfl⟩ (set_Valid_ok _ _ hx_1)) rfl rfl (VO.t (v := .bool (!rv_0)) (t_not rfl rfl rfl) rfl rfl (VO.n (VW.k2 0 9 rfl ?_)))
  refine VW.cond (b := (!rv_0)) rfl (fun hc_2 => ?_) (fun hc_2 => ?_)
  · replace h := iteT h hc_2
    refine VW.q (VO.a (v := .i 0) rfl (fun _ _ => rfl) (VO.a (v := .i 1) rfl (fun _ _ => rfl) (VO.n (VW.k2 2 3 rfl (VW.ret (thenQ_ret ?_))))))
    obtain rfl := oi h
    exact ⟨.inr rfl, rfl, _, .tup [.i 0, .i 1], hq [] [], ⟨_, _, rfl, rfl, rfl⟩, VLe.tup ⟨VLe.refl _, VLe.refl _, trivial⟩, hq_sub .slnil .slnil, rfl, rfl⟩
  · replace h := iteF h hc_2
    refine VW.skip (thenQ_normal (VW.k1 0 rfl (VW.q (VO.a (v := .i 0) rfl (fun _ _ => rfl) (VO.n (VW.seq (VW.q (VO.m rfl rfl (VO.t (v := .i (a0.length : Int)) (t_len rfl ⟨_, Tryd.underlying31⟩ rfl (by rw [List.length_map])) rfl rfl ?_)))))))))
    refine VO.m (v := .i 0) rfl (fun _ _ => rfl) (VO.n (VW.k4 4 10 11 12 rfl (VW.block (VW.k4 4 10 11 12 rfl ?_))))
    obtain ⟨o_3, hx_4, h⟩ := obind h
    refine VW.loopL (set_Size.l0_ok a0 _ _ _ hx_4 ?_)
    · intro n_5 ho_
      subst ho_
      try dsimp only at h
      refine blockQ_hit (thenQ_normal (VW.q (VO.m rfl rfl (VO.a (v := .i n_5) rfl rfl (VO.a (v := .i 0) rfl (fun _ _ => rfl) (VO.n (VW.k2 2 3 rfl (VW.ret ?_))))))))
      obtain rfl := oi h
      exact ⟨.inr rfl, rfl, _, .tup [.i n_5, .i 0], hq [] [], ⟨_, _, rfl, rfl, rfl⟩, VLe.tup ⟨VLe.refl _, VLe.refl _, trivial⟩, hq_sub .slnil .slnil, rfl, rfl⟩

theorem law03_sane_ok (r : Bool) (h : PL.law03_sane = some r) :
    VCalls Tryd.prog 5 [] (hq [] []) (fun v H => .bool r = v ∧ H = hq [] []) := by
  unfold PL.law03_sane at h
  refine VCalls.of_body 37 [0] Tryd.func5 rfl rfl rfl (nle rfl) (VW.subN (t' := []) trivial rfl (VW.q (VO.a (v := .bool false) rfl (fun _ _ => rfl) (VO.n (VW.subN (t' := []) trivial rfl (VW.q (VO.t (v := .agg [.i 0, .i 1, .i 5, .sl .nl []]) (t_build rfl st29 ⟨.i 1, _, rfl, (fun _ _ => rfl), rfl, .i 5, _, rfl, (fun _ _ => rfl), rfl, rfl⟩ rfl) rfl rfl (VO.t (v := .agg [.i 0, .i 3, .i 3, .sl .nl []]) (t_build rfl st29 ⟨.i 3, _, rfl, (fun _ _ => rfl), rfl, .i 3, _, rfl, (fun _ _ => rfl), rfl, rfl⟩ rfl) rfl rfl (VO.weak (d := 6) (v' := .agg [.i 0, .i 1, .i 5, .sl .fz []]) rfl (VLe.agg ⟨VLe.refl _, VLe.refl _, VLe.refl _, VLe.sl _ _, trivial⟩) ?_)))))))))
  refine VO.weak (d := 7) (v' := .agg [.i 0, .i 3, .i 3, .sl .fz []]) rfl (VLe.agg ⟨VLe.refl _, VLe.refl _, VLe.refl _, VLe.sl _ _, trivial⟩) (VO.w (fun v H' => ∃ t_0, .sl (.cap t_0 4) (([Node.mk 0 1 5 [], Node.mk 0 3 3 []]).map Node.c) = v ∧ H' = hq [] ([.cap t_0 4])) (w_buildSlice (l := [[.i 0, .i 1, .i 5, .sl .fz []], [.i 0, .i 3, .i 3, .sl .fz []]]) rfl el27 ⟨rfl, _, _, rfl, rfl, rfl, rfl, rfl, _, _, rfl, rfl, rfl, rfl, rfl⟩ rfl (nle rfl) (fun tk => ⟨tk, by simp only [List.map_cons, List.map_nil, Node.c_eq], rfl⟩)) rfl rfl ?_)
  rintro _ _ ⟨t_0, rfl, rfl⟩
  refine VO.t (v := .agg [.i 3, .i 0, .i 0, .sl (.cap t_0 4) (([Node.mk 0 1 5 [], Node.mk 0 3 3 []]).map Node.c)]) (t_build rfl st29 ⟨.i 3, _, rfl, (fun _ _ => rfl), rfl, _, _, rfl, rfl, rfl, rfl⟩ rfl) rfl rfl (VO.w (fun v H' => ∃ ob_1, .ptr ob_1 0 = v ∧ H' = hq ([[(ob_1, .cells [.i 0, .i 0, .i 0, .sl .nl []])]]) ([.cap t_0 4])) (w_alloc_q rfl zt29 (fun ob => ⟨ob, rfl, rfl⟩)) rfl rfl ?_)
  rintro _ _ ⟨ob_1, rfl, rfl⟩
  refine VO.w (fun v H' => .any = v ∧ H' = hq ([[(ob_1, .cells [.i 3, .i 0, .i 0, .sl (.cap t_0 4) (([Node.mk 0 1 5 [], Node.mk 0 3 3 []]).map Node.c)])]]) ([.cap t_0 4])) (w_store_q (i := 0) rfl sz29 rfl rfl rfl rfl rfl (nle rfl) ⟨rfl, rfl⟩) rfl rfl ?_
  rintro _ _ ⟨rfl, rfl⟩
  refine VO.n (VW.k1 1 rfl (VW.q (VO.r (v := .agg [.i 3, .i 0, .i 0, .sl (.cap t_0 4) (([Node.mk 0 1 5 [], Node.mk 0 3 3 []]).map Node.c)]) (r_load_q (i := 0) rfl sz29 rfl rfl rfl) rfl rfl (VO.weak (d := 11) (v' := .agg [.i 3, .i 0, .i 0, .sl .fz (([Node.mk 0 1 5 [], Node.mk 0 3 3 []]).map Node.c)]) rfl (VLe.agg ⟨VLe.refl _, VLe.refl _, VLe.refl _, VLe.sl _ _, trivial⟩) ?_))))
  obtain ⟨⟨rv_2, rv_3⟩, hx_4, h⟩ := obind h
  try dsimp only at h
  refine VO.k (w_keep rfl fn7 rfl ⟨_, _, rfl, rfl, rfl⟩ (set_Of_ok _ _ hx_4)) rfl rfl (VO.m rfl rfl (VO.t (v := .sl .fz (rv_2.map Pr.c)) (t_extract rfl rfl rfl) rfl rfl (VO.t (v := .i rv_3) (t_extract rfl rfl rfl) rfl rfl (VO.a (v := .sl .fz (rv_2.map Pr.c)) rfl rfl (VO.a (v := .i rv_3) rfl rfl (VO.n (VW.k2 2 3 rfl (VW.hsub (A := hq [] []) (hq_sub (.cons _ .slnil) (.cons _ .slnil)) (VW.q ?_)))))))))
  refine VO.m rfl rfl ?_
  obtain ⟨⟨rv_5, rv_6⟩, hx_7, h⟩ := obind h
  try dsimp only at h
  refine VO.k (w_keep rfl fn21 rfl ⟨_, _, rfl, rfl, rfl⟩ (set_Size_ok _ _ hx_7)) rfl rfl (VO.m rfl rfl (VO.t (v := .i rv_5) (t_extract rfl rfl rfl) rfl rfl (VO.t (v := .i rv_6) (t_extract rfl rfl rfl) rfl rfl (VO.a (v := .i rv_5) rfl rfl (VO.a (v := .i rv_6) rfl rfl (VO.n (VW.k4 2 3 4 5 rfl (VW.q (VO.m rfl rfl ?_)))))))))
  refine VO.t (v := .bool (rv_3 == 0)) (t_cmp rfl rfl rfl (fun _ _ => rfl) rfl) rfl rfl (VO.m rfl rfl ?_)
  refine VO.caseB (d := 22) (b := (rv_3 == 0)) rfl (fun hc_8 => ?_) (fun hc_8 => ?_)
  · replace h := iteT h hc_8
    refine VO.gt (v := .i rv_6) (t_move rfl rfl) rfl rfl rfl rfl (VO.gt (v := .bool (rv_6 == 0)) (t_cmp rfl rfl rfl (fun _ _ => rfl) rfl) rfl rfl rfl rfl (VO.t (v := .bool (rv_6 == 0)) (t_pick (b := true) rfl rfl (fun _ => rfl) (fun h => by cases h)) rfl rfl (VO.m rfl rfl ?_)))
    refine VO.caseB (d := 26) (b := (rv_6 == 0)) rfl (fun hc_9 => ?_) (fun hc_9 => ?_)
    · replace h := iteT h hc_9
      refine VO.gt (v := .i rv_5) (t_move rfl rfl) rfl rfl rfl rfl (VO.gt (v := .bool (rv_5 == 4)) (t_cmp rfl rfl rfl (fun _ _ => rfl) rfl) rfl rfl rfl rfl (VO.t (v := .bool (rv_5 == 4)) (t_pick (b := true) rfl rfl (fun _ => rfl) (fun h => by cases h)) rfl rfl (VO.m rfl rfl ?_)))
      refine VO.caseB (d := 30) (b := (rv_5 == 4)) rfl (fun hc_10 => ?_) (fun hc_10 => ?_)
      · replace h := iteT h hc_10
        refine VO.gt (v := .sl .fz (rv_2.map Pr.c)) (t_move rfl rfl) rfl rfl rfl rfl (VO.gt (v := .agg [.i 1, .i 2]) (t_build_arr rfl av59 ⟨.i 1, _, rfl, (fun _ _ => rfl), rfl, .i 2, _, rfl, (fun _ _ => rfl), rfl, rfl⟩ rfl) rfl rfl rfl rfl (VO.gt (v := .agg [.i 4, .i 5]) (t_build_arr rfl av59 ⟨.i 4, _, rfl, (fun _ _ => rfl), rfl, .i 5, _, rfl, (fun _ _ => rfl), rfl, rfl⟩ rfl) rfl rfl rfl rfl (VO.gw (fun v H' => ∃ t_11, .sl (.cap t_11 2) (([Pr.mk 1 2, Pr.mk 4 5]).map Pr.c) = v ∧ H' = hq [] ([.cap t_11 2])) (w_buildSlice (l := [[.i 1, .i 2], [.i 4, .i 5]]) rfl el31 ⟨rfl, _, _, rfl, rfl, rfl, rfl, rfl, _, _, rfl, rfl, rfl, rfl, rfl⟩ rfl (nle rfl) (fun tk => ⟨tk, by simp only [List.map_cons, List.map_nil, Pr.c_eq], rfl⟩)) rfl rfl rfl rfl ?_)))
        rintro _ _ ⟨t_11, rfl, rfl⟩
        refine VO.weak (d := 34) (v' := .sl .fz (([Pr.mk 1 2, Pr.mk 4 5]).map Pr.c)) rfl (VLe.sl _ _) ?_
        obtain ⟨rv_12, hx_13, h⟩ := obind h
        refine VO.gk (w_keep rfl fn9 rfl ⟨_, _, rfl, rfl, _, _, rfl, rfl, rfl⟩ (ref01_Pairs_ok _ _ _ hx_13)) rfl rfl rfl rfl (VO.t (v := .bool rv_12) (t_pick (b := true) rfl rfl (fun _ => rfl) (fun h => by cases h)) rfl rfl (VO.a (v := .bool rv_12) rfl rfl (VO.n (VW.ret ?_))))
        cases oi h
        exact ret0 rfl rfl ⟨rfl, rfl⟩
      · replace h := iteF h hc_10
        refine VO.s rfl (VO.s rfl (VO.s rfl (VO.s rfl (VO.s rfl (VO.t (v := .bool false) (t_pick (b := false) rfl rfl (fun h => by cases h) (fun _ => (fun _ _ => rfl))) rfl rfl (VO.a (v := .bool false) rfl rfl (VO.n (VW.ret ?_))))))))
        cases oi h
        exact ret0 rfl rfl ⟨rfl, rfl⟩
    · replace h := iteF h hc_9
      refine VO.s rfl (VO.s rfl (VO.t (v := .bool false) (t_pick (b := false) rfl rfl (fun h => by cases h) (fun _ => (fun _ _ => rfl))) rfl rfl (VO.m rfl rfl (VO.s rfl (VO.s rfl (VO.s rfl (VO.s rfl (VO.s rfl (VO.t (v := .bool false) (t_pick (b := false) rfl rfl (fun h => by cases h) (fun _ => (fun _ _ => rfl))) rfl rfl ?_)))))))))
      refine VO.a (v := .bool false) rfl rfl (VO.n (VW.ret ?_))
      cases oi h
      exact ret0 rfl rfl ⟨rfl, rfl⟩
  · replace h := iteF h hc_8
    refine VO.s rfl (VO.s rfl (VO.t (v := .bool false) (t_pick (b := false) rfl rfl (fun h => by cases h) (fun _ => (fun _ _ => rfl))) rfl rfl (VO.m rfl rfl (VO.s rfl (VO.s rfl (VO.t (v := .bool false) (t_pick (b := false) rfl rfl (fun h => by cases h) (fun _ => (fun _ _ => rfl))) rfl rfl (VO.m rfl rfl (VO.s rfl (VO.s rfl ?_)))))))))
    refine VO.s rfl (VO.s rfl (VO.s rfl (VO.t (v := .bool false) (t_pick (b := false) rfl rfl (fun h => by cases h) (fun _ => (fun _ _ => rfl))) rfl rfl (VO.a (v := .bool false) rfl rfl (VO.n (VW.ret ?_))))))
    cases oi h
    exact ret0 rfl rfl ⟨rfl, rfl⟩

theorem law03_node_ok (a0 : Node) (r : Node) (h : PL.law03_node a0 = some r) :
    VCalls Tryd.prog 6 [.agg (Node.l a0)] (hq [] []) (fun v H => .agg (Node.l r) = v ∧ H = hq [] []) := by
  revert h
  refine (PL.law03_node.l0.mutual_partial_correctness (motive_1 := fun a0 c_0 i_1 o => ∀ (Q : Exit → Env → HH → Prop) (ob_2 : Nat) (ob_3 : Nat) (ob_4 : Nat) (tk_5 : Tok) (hg_6 : Tok.grow tk_5 4 (c_0.map Node.c)) (hx0 : ∀ (c_7 : List Node) (tk_8 : Tok), c_7 = o → Tok.grow tk_8 4 (c_7.map Node.c) → Q (.exit 0) ⟨[(2, .ptr ob_3 0), (3, .ptr ob_4 0)], []⟩ (hq ([[(ob_3, .cells [.i 0, .i 0, .i 0, .sl .nl []])], [(ob_4, .cells [.i a0.Op, .i a0.Lo, .i a0.Hi, .sl tk_8 (c_7.map Node.c)])]]) ([tk_8]))), VW Tryd.prog 31 (codeAt [1, 1, 0, 1, 0, 0] (bodyOf Tryd.f6)) (thenQ (VL Tryd.prog 31 (codeAt [1, 1, 0, 1, 0, 0] (bodyOf Tryd.f6)) Q) Q) ⟨[(1, .ptr ob_2 0), (2, .ptr ob_3 0), (3, .ptr ob_4 0), (4, .i i_1)], []⟩ (hq ([[(ob_2, .cells (Node.l a0))], [(ob_3, .cells [.i 0, .i 0, .i 0, .sl .nl []])], [(ob_4, .cells [.i a0.Op, .i a0.Lo, .i a0.Hi, .sl tk_5 (c_0.map Node.c)])]]) ([tk_5]))) (motive_2 := fun a0 r => VCalls Tryd.prog 6 [.agg (Node.l a0)] (hq [] []) (fun v H => .agg (Node.l r) = v ∧ H = hq [] [])) ?_ ?_).2 a0 r
  · intro _ _ ih_law03_node_l0 ih_law03_node a0 c_0 i_1 o h Q ob_2 ob_3 ob_4 tk_5 hg_6 hx0
    refine VW.seq (VW.q (VO.m rfl rfl (VO.t (v := .ptr ob_2 3) (t_fieldAddr_ptr rfl fi24_3 rfl rfl) rfl rfl (VO.r (v := .sl .fz (a0.Kids.map Node.c)) (r_load_q (i := 0) rfl sz22 rfl rfl rfl) rfl rfl (VO.t (v := .i (a0.Kids.length : Int)) (t_len rfl ⟨_, Tryd.underlying22⟩ rfl (by rw [List.length_map])) rfl rfl (VO.t (v := .bool (decide (i_1 < (a0.Kids.length : Int)))) (t_cmp rfl rfl rfl rfl rfl) rfl rfl (VO.n (VW.k5 1 2 3 4 16 rfl ?_))))))))
    refine VW.cond (b := (decide (i_1 < (a0.Kids.length : Int)))) rfl (fun hc_9 => ?_) (fun hc_9 => ?_)
    · replace h := iteT h hc_9
      refine VW.skip (thenQ_normal (VW.k4 1 2 3 4 rfl (VW.seq (VW.block (VW.draw 12 mix rfl (VA.t (i := 0) (v := .ptr ob_4 3) rfl (t_fieldAddr_ptr rfl fi29_3 rfl rfl) (.inl rfl) (by kernel_rfl) (VA.t (i := 2) (v := .ptr ob_2 3) rfl (t_fieldAddr_ptr rfl fi24_3 rfl rfl) (.inl rfl) (by kernel_rfl) (VA.t (i := 4) rfl (t_move rfl rfl) (.inl rfl) (by kernel_rfl) ?_))))))))
      refine VA.alt [1, 3] (by kernel_rfl) rfl ⟨?_, ?_, trivial⟩
      · refine VA1.r (i := 1) (v := .sl tk_5 (c_0.map Node.c)) rfl (r_load_q (i := 2) rfl sz27 rfl rfl rfl) (.inl rfl) rfl (VA.phase (g := 5) [3, 5, 6] 3 (VP.take (i := 3) (v := .sl .fz (a0.Kids.map Node.c)) rfl (r_load_q (i := 0) rfl sz22 rfl rfl rfl) (.inl rfl) (by kernel_rfl) ?_))
        obtain ⟨c_10, hc_10, h⟩ := obind h
        refine VP.take (i := 5) (v := .vptr (Node.l c_10)) rfl (TOp.r (t_indexAddr rfl sl22 rfl rfl (getI_some hc_10).1 (map_get (getI_some hc_10).2 (Node.c_eq c_10)) rfl)) (.inl rfl) (by kernel_rfl) (VP.take (i := 6) (v := .agg (Node.l c_10)) rfl (r_load_v rfl sz24 rfl rfl) (.inl rfl) (by kernel_rfl) (VP.done (by kernel_rfl) ?_))
        obtain ⟨rv_11, hx_12, h⟩ := obind h
        refine VA.k (i := 7) rfl (w_keep rfl fn6 rfl ⟨_, _, rfl, rfl, rfl⟩ (ih_law03_node _ _ hx_12)) (.inl rfl) (by kernel_rfl) rfl (VA.w (i := 8) (fun v H' => ∃ t_13, .sl (.cap t_13 4) (([rv_11]).map Node.c) = v ∧ H' = hq ([[(ob_2, .cells (Node.l a0))], [(ob_3, .cells [.i 0, .i 0, .i 0, .sl .nl []])], [(ob_4, .cells [.i a0.Op, .i a0.Lo, .i a0.Hi, .sl tk_5 (c_0.map Node.c)])]]) ([.cap t_13 4, tk_5])) rfl (w_buildSlice (l := [(Node.l rv_11)]) rfl el27 ⟨rfl, _, _, rfl, rfl, rfl, rfl, rfl⟩ rfl (nle rfl) (fun tk => ⟨tk, by simp only [List.map_cons, List.map_nil, Node.c_eq], rfl⟩)) (.inl rfl) (by kernel_rfl) rfl ?_)
        rintro _ _ ⟨t_13, rfl, rfl⟩
        obtain ⟨_, hr_14, h⟩ := obind h
        refine VA.w (i := 9) (fun v H' => ∃ t_15, .sl (.cap t_15 4) ((c_0 ++ ([rv_11])).map Node.c) = v ∧ H' = hq ([[(ob_2, .cells (Node.l a0))], [(ob_3, .cells [.i 0, .i 0, .i 0, .sl .nl []])], [(ob_4, .cells [.i a0.Op, .i a0.Lo, .i a0.Hi, .sl tk_5 (c_0.map Node.c)])]]) ([.cap t_15 4, .cap t_13 4])) rfl (w_append (objs := List.flatten [[(ob_2, .cells (Node.l a0))], [(ob_3, .cells [.i 0, .i 0, .i 0, .sl .nl []])], [(ob_4, .cells [.i a0.Op, .i a0.Lo, .i a0.Hi, .sl tk_5 (c_0.map Node.c)])]]) (tks := [.cap t_13 4, tk_5]) (i := 1) rfl el27 rfl rfl hg_6 rfl (elemsOK_map Node.c_ok _) (by have := room_some hr_14; simpa using this) (nle rfl) (fun t => ⟨t, by simp only [List.map_append, List.map_nil, List.nil_append], rfl⟩)) (.inl rfl) (by kernel_rfl) rfl ?_
        rintro _ _ ⟨t_15, rfl, rfl⟩
        refine VA.t (i := 10) (v := .ptr ob_4 3) rfl (t_fieldAddr_ptr rfl fi29_3 rfl rfl) (.inl rfl) (by kernel_rfl) (VA.w (i := 11) (fun v H' => .any = v ∧ H' = hq ([[(ob_2, .cells (Node.l a0))], [(ob_3, .cells [.i 0, .i 0, .i 0, .sl .nl []])], [(ob_4, .cells [.i a0.Op, .i a0.Lo, .i a0.Hi, .sl (.cap t_15 4) ((c_0 ++ ([rv_11])).map Node.c)])]]) ([.cap t_15 4, .cap t_13 4])) rfl (w_store_q (i := 2) rfl sz27 rfl rfl rfl rfl rfl (nle rfl) ⟨rfl, rfl⟩) (.inl rfl) (by kernel_rfl) rfl ?_)
        rintro _ _ ⟨rfl, rfl⟩
        refine VA.done (by kernel_rfl) (blockQ_normal (thenQ_normal (VW.k4 1 2 3 4 rfl (VW.hsub (A := hq ([[(ob_2, .cells (Node.l a0))], [(ob_3, .cells [.i 0, .i 0, .i 0, .sl .nl []])], [(ob_4, .cells [.i a0.Op, .i a0.Lo, .i a0.Hi, .sl (.cap t_15 4) ((c_0 ++ ([rv_11])).map Node.c)])]]) ([.cap t_15 4])) (hq_sub (.cons_cons _ (.cons_cons _ (.cons_cons _ .slnil))) (.cons_cons _ (.cons _ .slnil))) (VW.region (VO.m rfl rfl (VO.t (v := .i (w64 (i_1 + 1))) (t_add rfl rfl (fun _ _ => rfl) rfl) rfl rfl (VO.a (v := .i (w64 (i_1 + 1))) rfl rfl (VO.nil ?_)))))))))
        refine thenQ_normal (VL.round ?_)
        refine VW.k4 1 2 3 4 rfl ?_
        exact ih_law03_node_l0 _ _ _ _ h _ ob_2 ob_3 ob_4 (.cap t_15 4) (.inr ⟨_, rfl⟩) hx0
      · refine VA1.r (i := 3) (v := .sl .fz (a0.Kids.map Node.c)) rfl (r_load_q (i := 0) rfl sz22 rfl rfl rfl) (.inl rfl) rfl ?_
        obtain ⟨c_16, hc_16, h⟩ := obind h
        refine VA.t (i := 5) (v := .vptr (Node.l c_16)) rfl (t_indexAddr rfl sl22 rfl rfl (getI_some hc_16).1 (map_get (getI_some hc_16).2 (Node.c_eq c_16)) rfl) (.inl rfl) (by kernel_rfl) ?_
        refine VA.alt [1, 6] (by kernel_rfl) rfl ⟨?_, ?_, trivial⟩
        · refine VA1.r (i := 1) (v := .sl tk_5 (c_0.map Node.c)) rfl (r_load_q (i := 2) rfl sz27 rfl rfl rfl) (.inl rfl) rfl (VA.phase (g := 5) [6] 1 (VP.take (i := 6) (v := .agg (Node.l c_16)) rfl (r_load_v rfl sz24 rfl rfl) (.inl rfl) (by kernel_rfl) (VP.done (by kernel_rfl) ?_)))
          obtain ⟨rv_17, hx_18, h⟩ := obind h
          refine VA.k (i := 7) rfl (w_keep rfl fn6 rfl ⟨_, _, rfl, rfl, rfl⟩ (ih_law03_node _ _ hx_18)) (.inl rfl) (by kernel_rfl) rfl (VA.w (i := 8) (fun v H' => ∃ t_19, .sl (.cap t_19 4) (([rv_17]).map Node.c) = v ∧ H' = hq ([[(ob_2, .cells (Node.l a0))], [(ob_3, .cells [.i 0, .i 0, .i 0, .sl .nl []])], [(ob_4, .cells [.i a0.Op, .i a0.Lo, .i a0.Hi, .sl tk_5 (c_0.map Node.c)])]]) ([.cap t_19 4, tk_5])) rfl (w_buildSlice (l := [(Node.l rv_17)]) rfl el27 ⟨rfl, _, _, rfl, rfl, rfl, rfl, rfl⟩ rfl (nle rfl) (fun tk => ⟨tk, by simp only [List.map_cons, List.map_nil, Node.c_eq], rfl⟩)) (.inl rfl) (by kernel_rfl) rfl ?_)
          rintro _ _ ⟨t_19, rfl, rfl⟩
          obtain ⟨_, hr_20, h⟩ := obind h
          refine VA.w (i := 9) (fun v H' => ∃ t_21, .sl (.cap t_21 4) ((c_0 ++ ([rv_17])).map Node.c) = v ∧ H' = hq ([[(ob_2, .cells (Node.l a0))], [(ob_3, .cells [.i 0, .i 0, .i 0, .sl .nl []])], [(ob_4, .cells [.i a0.Op, .i a0.Lo, .i a0.Hi, .sl tk_5 (c_0.map Node.c)])]]) ([.cap t_21 4, .cap t_19 4])) rfl (w_append (objs := List.flatten [[(ob_2, .cells (Node.l a0))], [(ob_3, .cells [.i 0, .i 0, .i 0, .sl .nl []])], [(ob_4, .cells [.i a0.Op, .i a0.Lo, .i a0.Hi, .sl tk_5 (c_0.map Node.c)])]]) (tks := [.cap t_19 4, tk_5]) (i := 1) rfl el27 rfl rfl hg_6 rfl (elemsOK_map Node.c_ok _) (by have := room_some hr_20; simpa using this) (nle rfl) (fun t => ⟨t, by simp only [List.map_append, List.map_nil, List.nil_append], rfl⟩)) (.inl rfl) (by kernel_rfl) rfl ?_
          rintro _ _ ⟨t_21, rfl, rfl⟩
          refine VA.t (i := 10) (v := .ptr ob_4 3) rfl (t_fieldAddr_ptr rfl fi29_3 rfl rfl) (.inl rfl) (by kernel_rfl) (VA.w (i := 11) (fun v H' => .any = v ∧ H' = hq ([[(ob_2, .cells (Node.l a0))], [(ob_3, .cells [.i 0, .i 0, .i 0, .sl .nl []])], [(ob_4, .cells [.i a0.Op, .i a0.Lo, .i a0.Hi, .sl (.cap t_21 4) ((c_0 ++ ([rv_17])).map Node.c)])]]) ([.cap t_21 4, .cap t_19 4])) rfl (w_store_q (i := 2) rfl sz27 rfl rfl rfl rfl rfl (nle rfl) ⟨rfl, rfl⟩) (.inl rfl) (by kernel_rfl) rfl ?_)
          rintro _ _ ⟨rfl, rfl⟩
          refine VA.done (by kernel_rfl) (blockQ_normal (thenQ_normal (VW.k4 1 2 3 4 rfl (VW.hsub (A := hq ([[(ob_2, .cells (Node.l a0))], [(ob_3, .cells [.i 0, .i 0, .i 0, .sl .nl []])], [(ob_4, .cells [.i a0.Op, .i a0.Lo, .i a0.Hi, .sl (.cap t_21 4) ((c_0 ++ ([rv_17])).map Node.c)])]]) ([.cap t_21 4])) (hq_sub (.cons_cons _ (.cons_cons _ (.cons_cons _ .slnil))) (.cons_cons _ (.cons _ .slnil))) (VW.region (VO.m rfl rfl (VO.t (v := .i (w64 (i_1 + 1))) (t_add rfl rfl (fun _ _ => rfl) rfl) rfl rfl (VO.a (v := .i (w64 (i_1 + 1))) rfl rfl (VO.nil ?_)))))))))
          refine thenQ_normal (VL.round ?_)
          refine VW.k4 1 2 3 4 rfl ?_
          exact ih_law03_node_l0 _ _ _ _ h _ ob_2 ob_3 ob_4 (.cap t_21 4) (.inr ⟨_, rfl⟩) hx0
        · refine VA1.r (i := 6) (v := .agg (Node.l c_16)) rfl (r_load_v rfl sz24 rfl rfl) (.inl rfl) rfl ?_
          refine VA.alt [1, 7] (by kernel_rfl) rfl ⟨?_, ?_, trivial⟩
          · refine VA1.r (i := 1) (v := .sl tk_5 (c_0.map Node.c)) rfl (r_load_q (i := 2) rfl sz27 rfl rfl rfl) (.inl rfl) rfl ?_
            obtain ⟨rv_22, hx_23, h⟩ := obind h
            refine VA.k (i := 7) rfl (w_keep rfl fn6 rfl ⟨_, _, rfl, rfl, rfl⟩ (ih_law03_node _ _ hx_23)) (.inl rfl) (by kernel_rfl) rfl (VA.w (i := 8) (fun v H' => ∃ t_24, .sl (.cap t_24 4) (([rv_22]).map Node.c) = v ∧ H' = hq ([[(ob_2, .cells (Node.l a0))], [(ob_3, .cells [.i 0, .i 0, .i 0, .sl .nl []])], [(ob_4, .cells [.i a0.Op, .i a0.Lo, .i a0.Hi, .sl tk_5 (c_0.map Node.c)])]]) ([.cap t_24 4, tk_5])) rfl (w_buildSlice (l := [(Node.l rv_22)]) rfl el27 ⟨rfl, _, _, rfl, rfl, rfl, rfl, rfl⟩ rfl (nle rfl) (fun tk => ⟨tk, by simp only [List.map_cons, List.map_nil, Node.c_eq], rfl⟩)) (.inl rfl) (by kernel_rfl) rfl ?_)
            rintro _ _ ⟨t_24, rfl, rfl⟩
            obtain ⟨_, hr_25, h⟩ := obind h
            refine VA.w (i := 9) (fun v H' => ∃ t_26, .sl (.cap t_26 4) ((c_0 ++ ([rv_22])).map Node.c) = v ∧ H' = hq ([[(ob_2, .cells (Node.l a0))], [(ob_3, .cells [.i 0, .i 0, .i 0, .sl .nl []])], [(ob_4, .cells [.i a0.Op, .i a0.Lo, .i a0.Hi, .sl tk_5 (c_0.map Node.c)])]]) ([.cap t_26 4, .cap t_24 4])) rfl (w_append (objs := List.flatten [[(ob_2, .cells (Node.l a0))], [(ob_3, .cells [.i 0, .i 0, .i 0, .sl .nl []])], [(ob_4, .cells [.i a0.Op, .i a0.Lo, .i a0.Hi, .sl tk_5 (c_0.map Node.c)])]]) (tks := [.cap t_24 4, tk_5]) (i := 1) rfl el27 rfl rfl hg_6 rfl (elemsOK_map Node.c_ok _) (by have := room_some hr_25; simpa using this) (nle rfl) (fun t => ⟨t, by simp only [List.map_append, List.map_nil, List.nil_append], rfl⟩)) (.inl rfl) (by kernel_rfl) rfl ?_
            rintro _ _ ⟨t_26, rfl, rfl⟩
            refine VA.t (i := 10) (v := .ptr ob_4 3) rfl (t_fieldAddr_ptr rfl fi29_3 rfl rfl) (.inl rfl) (by kernel_rfl) (VA.w (i := 11) (fun v H' => .any = v ∧ H' = hq ([[(ob_2, .cells (Node.l a0))], [(ob_3, .cells [.i 0, .i 0, .i 0, .sl .nl []])], [(ob_4, .cells [.i a0.Op, .i a0.Lo, .i a0.Hi, .sl (.cap t_26 4) ((c_0 ++ ([rv_22])).map Node.c)])]]) ([.cap t_26 4, .cap t_24 4])) rfl (w_store_q (i := 2) rfl sz27 rfl rfl rfl rfl rfl (nle rfl) ⟨rfl, rfl⟩) (.inl rfl) (by kernel_rfl) rfl ?_)
            rintro _ _ ⟨rfl, rfl⟩
            refine VA.done (by kernel_rfl) (blockQ_normal (thenQ_normal (VW.k4 1 2 3 4 rfl (VW.hsub (A := hq ([[(ob_2, .cells (Node.l a0))], [(ob_3, .cells [.i 0, .i 0, .i 0, .sl .nl []])], [(ob_4, .cells [.i a0.Op, .i a0.Lo, .i a0.Hi, .sl (.cap t_26 4) ((c_0 ++ ([rv_22])).map Node.c)])]]) ([.cap t_26 4])) (hq_sub (.cons_cons _ (.cons_cons _ (.cons_cons _ .slnil))) (.cons_cons _ (.cons _ .slnil))) (VW.region (VO.m rfl rfl (VO.t (v := .i (w64 (i_1 + 1))) (t_add rfl rfl (fun _ _ => rfl) rfl) rfl rfl (VO.a (v := .i (w64 (i_1 + 1))) rfl rfl (VO.nil ?_)))))))))
            refine thenQ_normal (VL.round ?_)
            refine VW.k4 1 2 3 4 rfl ?_
            exact ih_law03_node_l0 _ _ _ _ h _ ob_2 ob_3 ob_4 (.cap t_26 4) (.inr ⟨_, rfl⟩) hx0
          · obtain ⟨rv_27, hx_28, h⟩ := obind h
            refine VA1.k (i := 7) rfl (w_keep rfl fn6 rfl ⟨_, _, rfl, rfl, rfl⟩ (ih_law03_node _ _ hx_28)) (.inl rfl) rfl ?_
            refine VA.alt [1, 8] (by kernel_rfl) rfl ⟨?_, ?_, trivial⟩
            · refine VA1.r (i := 1) (v := .sl tk_5 (c_0.map Node.c)) rfl (r_load_q (i := 2) rfl sz27 rfl rfl rfl) (.inl rfl) rfl (VA.w (i := 8) (fun v H' => ∃ t_29, .sl (.cap t_29 4) (([rv_27]).map Node.c) = v ∧ H' = hq ([[(ob_2, .cells (Node.l a0))], [(ob_3, .cells [.i 0, .i 0, .i 0, .sl .nl []])], [(ob_4, .cells [.i a0.Op, .i a0.Lo, .i a0.Hi, .sl tk_5 (c_0.map Node.c)])]]) ([.cap t_29 4, tk_5])) rfl (w_buildSlice (l := [(Node.l rv_27)]) rfl el27 ⟨rfl, _, _, rfl, rfl, rfl, rfl, rfl⟩ rfl (nle rfl) (fun tk => ⟨tk, by simp only [List.map_cons, List.map_nil, Node.c_eq], rfl⟩)) (.inl rfl) (by kernel_rfl) rfl ?_)
              rintro _ _ ⟨t_29, rfl, rfl⟩
              obtain ⟨_, hr_30, h⟩ := obind h
              refine VA.w (i := 9) (fun v H' => ∃ t_31, .sl (.cap t_31 4) ((c_0 ++ ([rv_27])).map Node.c) = v ∧ H' = hq ([[(ob_2, .cells (Node.l a0))], [(ob_3, .cells [.i 0, .i 0, .i 0, .sl .nl []])], [(ob_4, .cells [.i a0.Op, .i a0.Lo, .i a0.Hi, .sl tk_5 (c_0.map Node.c)])]]) ([.cap t_31 4, .cap t_29 4])) rfl (w_append (objs := List.flatten [[(ob_2, .cells (Node.l a0))], [(ob_3, .cells [.i 0, .i 0, .i 0, .sl .nl []])], [(ob_4, .cells [.i a0.Op, .i a0.Lo, .i a0.Hi, .sl tk_5 (c_0.map Node.c)])]]) (tks := [.cap t_29 4, tk_5]) (i := 1) rfl el27 rfl rfl hg_6 rfl (elemsOK_map Node.c_ok _) (by have := room_some hr_30; simpa using this) (nle rfl) (fun t => ⟨t, by simp only [List.map_append, List.map_nil, List.nil_append], rfl⟩)) (.inl rfl) (by kernel_rfl) rfl ?_
              rintro _ _ ⟨t_31, rfl, rfl⟩
              refine VA.t (i := 10) (v := .ptr ob_4 3) rfl (t_fieldAddr_ptr rfl fi29_3 rfl rfl) (.inl rfl) (by kernel_rfl) (VA.w (i := 11) (fun v H' => .any = v ∧ H' = hq ([[(ob_2, .cells (Node.l a0))], [(ob_3, .cells [.i 0, .i 0, .i 0, .sl .nl []])], [(ob_4, .cells [.i a0.Op, .i a0.Lo, .i a0.Hi, .sl (.cap t_31 4) ((c_0 ++ ([rv_27])).map Node.c)])]]) ([.cap t_31 4, .cap t_29 4])) rfl (w_store_q (i := 2) rfl sz27 rfl rfl rfl rfl rfl (nle rfl) ⟨rfl, rfl⟩) (.inl rfl) (by kernel_rfl) rfl ?_)
              rintro _ _ ⟨rfl, rfl⟩
              refine VA.done (by kernel_rfl) (blockQ_normal (thenQ_normal (VW.k4 1 2 3 4 rfl (VW.hsub (A := hq ([[(ob_2, .cells (Node.l a0))], [(ob_3, .cells [.i 0, .i 0, .i 0, .sl .nl []])], [(ob_4, .cells [.i a0.Op, .i a0.Lo, .i a0.Hi, .sl (.cap t_31 4) ((c_0 ++ ([rv_27])).map Node.c)])]]) ([.cap t_31 4])) (hq_sub (.cons_cons _ (.cons_cons _ (.cons_cons _ .slnil))) (.cons_cons _ (.cons _ .slnil))) (VW.region (VO.m rfl rfl (VO.t (v := .i (w64 (i_1 + 1))) (t_add rfl rfl (fun _ _ => rfl) rfl) rfl rfl (VO.a (v := .i (w64 (i_1 + 1))) rfl rfl (VO.nil ?_)))))))))
              refine thenQ_normal (VL.round ?_)
              refine VW.k4 1 2 3 4 rfl ?_
              exact ih_law03_node_l0 _ _ _ _ h _ ob_2 ob_3 ob_4 (.cap t_31 4) (.inr ⟨_, rfl⟩) hx0
            · refine VA1.w (i := 8) (fun v H' => ∃ t_32, .sl (.cap t_32 4) (([rv_27]).map Node.c) = v ∧ H' = hq ([[(ob_2, .cells (Node.l a0))], [(ob_3, .cells [.i 0, .i 0, .i 0, .sl .nl []])], [(ob_4, .cells [.i a0.Op, .i a0.Lo, .i a0.Hi, .sl tk_5 (c_0.map Node.c)])]]) ([.cap t_32 4, tk_5])) rfl (w_buildSlice (l := [(Node.l rv_27)]) rfl el27 ⟨rfl, _, _, rfl, rfl, rfl, rfl, rfl⟩ rfl (nle rfl) (fun tk => ⟨tk, by simp only [List.map_cons, List.map_nil, Node.c_eq], rfl⟩)) (.inl rfl) rfl ?_
              rintro _ _ ⟨t_32, rfl, rfl⟩
              refine VA.phase (g := 3) [1] 1 (VP.take (i := 1) (v := .sl tk_5 (c_0.map Node.c)) rfl (r_load_q (i := 2) rfl sz27 rfl rfl rfl) (.inl rfl) (by kernel_rfl) (VP.done (by kernel_rfl) ?_))
              obtain ⟨_, hr_33, h⟩ := obind h
              refine VA.w (i := 9) (fun v H' => ∃ t_34, .sl (.cap t_34 4) ((c_0 ++ ([rv_27])).map Node.c) = v ∧ H' = hq ([[(ob_2, .cells (Node.l a0))], [(ob_3, .cells [.i 0, .i 0, .i 0, .sl .nl []])], [(ob_4, .cells [.i a0.Op, .i a0.Lo, .i a0.Hi, .sl tk_5 (c_0.map Node.c)])]]) ([.cap t_34 4, .cap t_32 4])) rfl (w_append (objs := List.flatten [[(ob_2, .cells (Node.l a0))], [(ob_3, .cells [.i 0, .i 0, .i 0, .sl .nl []])], [(ob_4, .cells [.i a0.Op, .i a0.Lo, .i a0.Hi, .sl tk_5 (c_0.map Node.c)])]]) (tks := [.cap t_32 4, tk_5]) (i := 1) rfl el27 rfl rfl hg_6 rfl (elemsOK_map Node.c_ok _) (by have := room_some hr_33; simpa using this) (nle rfl) (fun t => ⟨t, by simp only [List.map_append, List.map_nil, List.nil_append], rfl⟩)) (.inl rfl) (by kernel_rfl) rfl ?_
              rintro _ _ ⟨t_34, rfl, rfl⟩
              refine VA.t (i := 10) (v := .ptr ob_4 3) rfl (t_fieldAddr_ptr rfl fi29_3 rfl rfl) (.inl rfl) (by kernel_rfl) (VA.w (i := 11) (fun v H' => .any = v ∧ H' = hq ([[(ob_2, .cells (Node.l a0))], [(ob_3, .cells [.i 0, .i 0, .i 0, .sl .nl []])], [(ob_4, .cells [.i a0.Op, .i a0.Lo, .i a0.Hi, .sl (.cap t_34 4) ((c_0 ++ ([rv_27])).map Node.c)])]]) ([.cap t_34 4, .cap t_32 4])) rfl (w_store_q (i := 2) rfl sz27 rfl rfl rfl rfl rfl (nle rfl) ⟨rfl, rfl⟩) (.inl rfl) (by kernel_rfl) rfl ?_)
              rintro _ _ ⟨rfl, rfl⟩
              refine VA.done (by kernel_rfl) (blockQ_normal (thenQ_normal (VW.k4 1 2 3 4 rfl (VW.hsub (A := hq ([[(ob_2, .cells (Node.l a0))], [(ob_3, .cells [.i 0, .i 0, .i 0, .sl .nl []])], [(ob_4, .cells [.i a0.Op, .i a0.Lo, .i a0.Hi, .sl (.cap t_34 4) ((c_0 ++ ([rv_27])).map Node.c)])]]) ([.cap t_34 4])) (hq_sub (.cons_cons _ (.cons_cons _ (.cons_cons _ .slnil))) (.cons_cons _ (.cons _ .slnil))) (VW.region (VO.m rfl rfl (VO.t (v := .i (w64 (i_1 + 1))) (t_add rfl rfl (fun _ _ => rfl) rfl) rfl rfl (VO.a (v := .i (w64 (i_1 + 1))) rfl rfl (VO.nil ?_)))))))))
              refine thenQ_normal (VL.round ?_)
              refine VW.k4 1 2 3 4 rfl ?_
              exact ih_law03_node_l0 _ _ _ _ h _ ob_2 ob_3 ob_4 (.cap t_34 4) (.inr ⟨_, rfl⟩) hx0
    · replace h := iteF h hc_9
      refine VW.k2 2 3 rfl (VW.frontS 2 rfl (VW.frontS 2 rfl (VW.hsub (A := hq ([[(ob_3, .cells [.i 0, .i 0, .i 0, .sl .nl []])], [(ob_4, .cells [.i a0.Op, .i a0.Lo, .i a0.Hi, .sl tk_5 (c_0.map Node.c)])]]) ([tk_5])) (hq_sub (.cons_cons _ (.cons_cons _ (.cons _ .slnil))) (.cons_cons _ .slnil)) (VW.exit (thenQ_exit (thenQ_exit ?_))))))
      obtain rfl := oi h
      exact hx0 _ tk_5 rfl hg_6
  · intro _ ih_law03_node_l0 a0 r h 
    refine VCalls.of_cell 31 2 29 Tryd.func6 rfl rfl rfl (nle rfl) (VW.k1 0 rfl (VW.q (VO.w (fun v H' => ∃ ob_2, .ptr ob_2 0 = v ∧ H' = hq ([[(ob_2, .cells (Node.l a0))]]) []) (w_box_q rfl rfl rfl (fun ob => ⟨ob, rfl, rfl⟩)) rfl rfl ?_)))
    rintro _ _ ⟨ob_2, rfl, rfl⟩
    refine VO.w (fun v H' => ∃ ob_3, .ptr ob_3 0 = v ∧ H' = hq ([[(ob_3, .cells [.i 0, .i 0, .i 0, .sl .nl []])], [(ob_2, .cells (Node.l a0))]]) []) (w_alloc_q rfl zt29 (fun ob => ⟨ob, rfl, rfl⟩)) rfl rfl ?_
    rintro _ _ ⟨ob_3, rfl, rfl⟩
    refine VO.n (VW.k2 1 2 rfl (VW.q (VO.t (v := .ptr ob_2 0) (t_fieldAddr_ptr rfl fi24_0 rfl rfl) rfl rfl (VO.r (v := .i a0.Op) (r_load_q (i := 1) rfl sz3 rfl rfl rfl) rfl rfl (VO.t (v := .ptr ob_2 1) (t_fieldAddr_ptr rfl fi24_1 rfl rfl) rfl rfl (VO.r (v := .i a0.Lo) (r_load_q (i := 1) rfl sz3 rfl rfl rfl) rfl rfl (VO.t (v := .ptr ob_2 2) (t_fieldAddr_ptr rfl fi24_2 rfl rfl) rfl rfl (VO.r (v := .i a0.Hi) (r_load_q (i := 1) rfl sz3 rfl rfl rfl) rfl rfl (VO.t (v := .agg [.i a0.Op, .i a0.Lo, .i a0.Hi, .sl .nl []]) (t_build rfl st29 ⟨_, _, rfl, rfl, rfl, _, _, rfl, rfl, rfl, _, _, rfl, rfl, rfl, rfl⟩ rfl) rfl rfl ?_)))))))))
    refine VO.w (fun v H' => ∃ ob_4, .ptr ob_4 0 = v ∧ H' = hq ([[(ob_4, .cells [.i 0, .i 0, .i 0, .sl .nl []])], [(ob_3, .cells [.i 0, .i 0, .i 0, .sl .nl []])], [(ob_2, .cells (Node.l a0))]]) []) (w_alloc_q rfl zt29 (fun ob => ⟨ob, rfl, rfl⟩)) rfl rfl ?_
    rintro _ _ ⟨ob_4, rfl, rfl⟩
    refine VO.w (fun v H' => .any = v ∧ H' = hq ([[(ob_4, .cells [.i a0.Op, .i a0.Lo, .i a0.Hi, .sl .nl []])], [(ob_3, .cells [.i 0, .i 0, .i 0, .sl .nl []])], [(ob_2, .cells (Node.l a0))]]) []) (w_store_q (i := 0) rfl sz29 rfl rfl rfl rfl rfl (nle rfl) ⟨rfl, rfl⟩) rfl rfl ?_
    rintro _ _ ⟨rfl, rfl⟩
    refine VO.n (VW.k3 1 2 3 rfl (VW.seq (VW.q (VO.a (v := .i 0) rfl (fun _ _ => rfl) (VO.n (VW.block (VW.k4 1 2 3 4 rfl (VW.frontS 0 rfl (VW.frontS 1 rfl ?_)))))))))
    refine VW.frontS 2 rfl (VW.eqv (A := hq ([[(ob_2, .cells (Node.l a0))], [(ob_3, .cells [.i 0, .i 0, .i 0, .sl .nl []])], [(ob_4, .cells [.i a0.Op, .i a0.Lo, .i a0.Hi, .sl .nl []])]]) ([.nl])) (.refl _) ?_)
    obtain ⟨o_35, hx_36, h⟩ := obind h
    refine VW.loopL (ih_law03_node_l0 _ _ _ _ hx_36 _ ob_2 ob_3 ob_4 .nl (.inl ⟨rfl, rfl⟩) ?_)
    · intro c_7 tk_8 ho_ hg_37
      subst ho_
      try dsimp only at h
      refine blockQ_hit (thenQ_normal (VW.q (VO.r (v := .agg [.i a0.Op, .i a0.Lo, .i a0.Hi, .sl tk_8 (c_7.map Node.c)]) (r_load_q (i := 1) rfl sz29 rfl rfl rfl) rfl rfl (VO.w (fun v H' => .any = v ∧ H' = hq ([[(ob_3, .cells [.i a0.Op, .i a0.Lo, .i a0.Hi, .sl tk_8 (c_7.map Node.c)])], [(ob_4, .cells [.i a0.Op, .i a0.Lo, .i a0.Hi, .sl tk_8 (c_7.map Node.c)])]]) ([tk_8])) (w_store_q (i := 0) rfl sz29 rfl rfl rfl rfl rfl (nle rfl) ⟨rfl, rfl⟩) rfl rfl ?_))))
      rintro _ _ ⟨rfl, rfl⟩
      refine VO.n (VW.k1 2 rfl (VW.hsub (A := hq ([[(ob_3, .cells [.i a0.Op, .i a0.Lo, .i a0.Hi, .sl tk_8 (c_7.map Node.c)])]]) ([tk_8])) (hq_sub (.cons_cons _ (.cons _ .slnil)) (.cons_cons _ .slnil)) (VW.ret ?_)))
      obtain rfl := oi h
      exact ⟨.inr rfl, rfl, _, _, 0, _, _, _, _, .agg [.i ((Node.mk a0.Op a0.Lo a0.Hi c_7).Op), .i ((Node.mk a0.Op a0.Lo a0.Hi c_7).Lo), .i ((Node.mk a0.Op a0.Lo a0.Hi c_7).Hi), .sl .fz (((Node.mk a0.Op a0.Lo a0.Hi c_7).Kids).map Node.c)], hq [] [], rfl, rfl, sz29, rfl, VLe.agg ⟨VLe.refl _, VLe.refl _, VLe.refl _, VLe.sl _ _, trivial⟩, hq_sub (.cons _ .slnil) (.cons _ .slnil), rfl, rfl⟩

theorem ref03_size_ok (a0 : Node) (r : Int × Int) (h : PL.ref03_size a0 = some r) :
    VCalls Tryd.prog 43 [.agg (Node.l a0)] (hq [] []) (fun v H => .tup [.i r.1, .i r.2] = v ∧ H = hq [] []) := by
  revert h
  refine (PL.ref03_size.l0.mutual_partial_correctness (motive_1 := fun a0 nodes_0 deep_1 i_2 o => ∀ (Q : Exit → Env → HH → Prop) (ob_3 : Nat) (hx0 : ∀ (nodes_4 : Int) (deep_5 : Int), (nodes_4, deep_5) = o → Q (.exit 0) ⟨[(4, .i nodes_4), (5, .i deep_5)], []⟩ (hq [] [])), VW Tryd.prog 38 (codeAt [1, 1, 1, 0, 1, 0, 0] (bodyOf Tryd.f43)) (thenQ (VL Tryd.prog 38 (codeAt [1, 1, 1, 0, 1, 0, 0] (bodyOf Tryd.f43)) Q) Q) ⟨[(1, .ptr ob_3 0), (4, .i nodes_0), (5, .i deep_1), (6, .i i_2)], []⟩ (hq ([[(ob_3, .cells (Node.l a0))]]) [])) (motive_2 := fun a0 r => VCalls Tryd.prog 43 [.agg (Node.l a0)] (hq [] []) (fun v H => .tup [.i r.1, .i r.2] = v ∧ H = hq [] [])) ?_ ?_).2 a0 r
  · intro _ _ ih_ref03_size_l0 ih_ref03_size a0 nodes_0 deep_1 i_2 o h Q ob_3 hx0
    refine VW.seq (VW.q (VO.m rfl rfl (VO.t (v := .ptr ob_3 3) (t_fieldAddr_ptr rfl fi24_3 rfl rfl) rfl rfl (VO.r (v := .sl .fz (a0.Kids.map Node.c)) (r_load_q (i := 0) rfl sz22 rfl rfl rfl) rfl rfl (VO.t (v := .i (a0.Kids.length : Int)) (t_len rfl ⟨_, Tryd.underlying22⟩ rfl (by rw [List.length_map])) rfl rfl (VO.t (v := .bool (decide (i_2 < (a0.Kids.length : Int)))) (t_cmp rfl rfl rfl rfl rfl) rfl rfl (VO.m rfl rfl ?_)))))))
    refine VO.caseB (d := 14) (b := (decide (i_2 < (a0.Kids.length : Int)))) rfl (fun hc_6 => ?_) (fun hc_6 => ?_)
    · replace h := iteT h hc_6
      refine VO.gt (v := .i nodes_0) (t_move rfl rfl) rfl rfl rfl rfl (VO.gt (v := .bool (decide (nodes_0 ≤ 200))) (t_cmp rfl rfl rfl (fun _ _ => rfl) rfl) rfl rfl rfl rfl (VO.t (v := .bool (decide (nodes_0 ≤ 200))) (t_pick (b := true) rfl rfl (fun _ => rfl) (fun h => by cases h)) rfl rfl (VO.n (VW.k7 1 4 5 6 15 16 17 rfl ?_))))
      refine VW.cond (b := (decide (nodes_0 ≤ 200))) rfl (fun hc_7 => ?_) (fun hc_7 => ?_)
      · replace h := iteT h hc_7
        refine VW.skip (thenQ_normal (VW.k6 1 4 5 6 15 16 rfl (VW.seq (VW.block (VW.q (VO.t (v := .ptr ob_3 3) (t_fieldAddr_ptr rfl fi24_3 rfl rfl) rfl rfl (VO.r (v := .sl .fz (a0.Kids.map Node.c)) (r_load_q (i := 0) rfl sz22 rfl rfl rfl) rfl rfl (VO.m rfl rfl ?_))))))))
        obtain ⟨c_8, hc_8, h⟩ := obind h
        refine VO.t (v := .vptr (Node.l c_8)) (t_indexAddr rfl sl22 rfl rfl (getI_some hc_8).1 (map_get (getI_some hc_8).2 (Node.c_eq c_8)) rfl) rfl rfl (VO.r (v := .agg (Node.l c_8)) (r_load_v rfl sz24 rfl rfl) rfl rfl ?_)
        obtain ⟨⟨rv_9, rv_10⟩, hx_11, h⟩ := obind h
        try dsimp only at h
        refine VO.k (w_keep rfl fn43 rfl ⟨_, _, rfl, rfl, rfl⟩ (ih_ref03_size _ _ hx_11)) rfl rfl (VO.m rfl rfl (VO.t (v := .i rv_9) (t_extract rfl rfl rfl) rfl rfl (VO.t (v := .i rv_10) (t_extract rfl rfl rfl) rfl rfl (VO.a (v := .i rv_9) rfl rfl (VO.a (v := .i rv_10) rfl rfl (VO.n (VW.k8 1 4 5 6 15 16 7 8 rfl (VW.q (VO.m rfl rfl ?_)))))))))
        refine VO.m rfl rfl (VO.t (v := .i (w64 (nodes_0 + rv_9))) (t_add rfl rfl rfl rfl) rfl rfl (VO.a (v := .i (w64 (nodes_0 + rv_9))) rfl rfl (VO.n (VW.k7 1 5 6 15 16 8 4 rfl (VW.region (VO.m rfl rfl (VO.m rfl rfl (VO.t (v := .i (max deep_1 rv_10)) (t_max rfl rfl rfl rfl) rfl rfl (VO.a (v := .i (max deep_1 rv_10)) rfl rfl ?_)))))))))
        refine VO.nil (blockQ_normal (thenQ_normal (VW.k6 1 6 15 16 4 5 rfl (VW.region (VO.m rfl rfl (VO.t (v := .i (w64 (i_2 + 1))) (t_add rfl rfl (fun _ _ => rfl) rfl) rfl rfl (VO.a (v := .i (w64 (i_2 + 1))) rfl rfl (VO.nil (thenQ_normal (VL.round ?_))))))))))
        refine VW.k4 1 4 5 6 rfl ?_
        exact ih_ref03_size_l0 _ _ _ _ _ h _ ob_3 hx0
      · replace h := iteF h hc_7
        refine VW.k2 4 5 rfl (VW.hsub (A := hq [] []) (hq_sub (.cons _ .slnil) .slnil) (VW.exit (thenQ_exit (thenQ_exit ?_))))
        obtain rfl := oi h
        exact hx0 _ _ rfl
    · replace h := iteF h hc_6
      refine VO.s rfl (VO.s rfl (VO.t (v := .bool false) (t_pick (b := false) rfl rfl (fun h => by cases h) (fun _ => (fun _ _ => rfl))) rfl rfl (VO.n (VW.k7 1 4 5 6 15 16 17 rfl (VW.condF rfl (VW.k2 4 5 rfl (VW.hsub (A := hq [] []) (hq_sub (.cons _ .slnil) .slnil) (VW.exit (thenQ_exit ?_)))))))))
      refine thenQ_exit ?_
      obtain rfl := oi h
      exact hx0 _ _ rfl
  · intro _ ih_ref03_size_l0 a0 r h 
    refine VCalls.of_body 38 [2, 3] Tryd.func43 rfl rfl rfl (nle rfl) (VW.k1 0 rfl (VW.q (VO.w (fun v H' => ∃ ob_3, .ptr ob_3 0 = v ∧ H' = hq ([[(ob_3, .cells (Node.l a0))]]) []) (w_box_q rfl rfl rfl (fun ob => ⟨ob, rfl, rfl⟩)) rfl rfl ?_)))
    rintro _ _ ⟨ob_3, rfl, rfl⟩
    refine VO.a (v := .i 0) rfl (fun _ _ => rfl) (VO.a (v := .i 0) rfl (fun _ _ => rfl) (VO.n (VW.k1 1 rfl (VW.q (VO.a (v := .i 1) rfl (fun _ _ => rfl) (VO.n (VW.q (VO.a (v := .i 0) rfl (fun _ _ => rfl) (VO.n ?_)))))))))
    refine VW.seq (VW.q (VO.a (v := .i 0) rfl (fun _ _ => rfl) (VO.n (VW.block (VW.k4 1 4 5 6 rfl ?_)))))
    obtain ⟨o_12, hx_13, h⟩ := obind h
    refine VW.loopL (ih_ref03_size_l0 _ _ _ _ _ hx_13 _ ob_3 ?_)
    · intro nodes_4 deep_5 ho_
      subst ho_
      try dsimp only at h
      refine blockQ_hit (thenQ_normal (VW.q (VO.m rfl rfl (VO.m rfl rfl (VO.t (v := .i (w64 (deep_5 + 1))) (t_add rfl rfl (fun _ _ => rfl) rfl) rfl rfl (VO.a (v := .i nodes_4) rfl rfl (VO.a (v := .i (w64 (deep_5 + 1))) rfl rfl (VO.n (VW.k2 2 3 rfl ?_)))))))))
      refine VW.ret ?_
      obtain rfl := oi h
      exact ⟨.inr rfl, rfl, _, .tup [.i nodes_4, .i (w64 (deep_5 + 1))], hq [] [], ⟨_, _, rfl, rfl, rfl⟩, VLe.tup ⟨VLe.refl _, VLe.refl _, trivial⟩, hq_sub .slnil .slnil, rfl, rfl⟩

theorem ref03_shaped_ok (a0 : Node) (r : Bool) (h : PL.ref03_shaped a0 = some r) :
    VCalls Tryd.prog 44 [.agg (Node.l a0)] (hq [] []) (fun v H => .bool r = v ∧ H = hq [] []) := by
  revert h
  refine (PL.ref03_shaped.l0.mutual_partial_correctness (motive_1 := fun a0 i_0 o => ∀ (Q : Exit → Env → HH → Prop) (ob_1 : Nat) (hx0 : Sum.inl () = o → Q (.exit 1) ⟨[], []⟩ (hq [] [])) (hx1 : Sum.inr () = o → Q .ret ⟨[(2, .bool false)], []⟩ (hq [] [])), VW Tryd.prog 68 (codeAt [1, 1, 1, 1, 0, 1, 0, 0] (bodyOf Tryd.f44)) (thenQ (VL Tryd.prog 68 (codeAt [1, 1, 1, 1, 0, 1, 0, 0] (bodyOf Tryd.f44)) Q) Q) ⟨[(1, .ptr ob_1 0), (3, .i (a0.Kids.length : Int)), (4, .i i_0)], []⟩ (hq ([[(ob_1, .cells (Node.l a0))]]) [])) (motive_2 := fun a0 r => VCalls Tryd.prog 44 [.agg (Node.l a0)] (hq [] []) (fun v H => .bool r = v ∧ H = hq [] [])) ?_ ?_).2 a0 r
  · intro _ _ ih_ref03_shaped_l0 ih_ref03_shaped a0 i_0 o h Q ob_1 hx0 hx1
    refine VW.seq (VW.q (VO.m rfl rfl (VO.m rfl rfl (VO.t (v := .bool (decide (i_0 < (a0.Kids.length : Int)))) (t_cmp rfl rfl rfl rfl rfl) rfl rfl (VO.n (VW.k4 1 3 4 58 rfl ?_))))))
    refine VW.cond (b := (decide (i_0 < (a0.Kids.length : Int)))) rfl (fun hc_2 => ?_) (fun hc_2 => ?_)
    · replace h := iteT h hc_2
      refine VW.skip (thenQ_normal (VW.k3 1 3 4 rfl (VW.seq (VW.block (VW.q (VO.t (v := .ptr ob_1 3) (t_fieldAddr_ptr rfl fi24_3 rfl rfl) rfl rfl (VO.r (v := .sl .fz (a0.Kids.map Node.c)) (r_load_q (i := 0) rfl sz22 rfl rfl rfl) rfl rfl (VO.m rfl rfl ?_))))))))
      obtain ⟨c_3, hc_3, h⟩ := obind h
      refine VO.t (v := .vptr (Node.l c_3)) (t_indexAddr rfl sl22 rfl rfl (getI_some hc_3).1 (map_get (getI_some hc_3).2 (Node.c_eq c_3)) rfl) rfl rfl (VO.r (v := .agg (Node.l c_3)) (r_load_v rfl sz24 rfl rfl) rfl rfl ?_)
      obtain ⟨rv_4, hx_5, h⟩ := obind h
      refine VO.k (w_keep rfl fn44 rfl ⟨_, _, rfl, rfl, rfl⟩ (ih_ref03_shaped _ _ hx_5)) rfl rfl (VO.t (v := .bool (!rv_4)) (t_not rfl rfl rfl) rfl rfl (VO.n (VW.k4 1 3 4 67 rfl ?_)))
      refine VW.cond (b := (!rv_4)) rfl (fun hc_6 => ?_) (fun hc_6 => ?_)
      · replace h := iteT h hc_6
        refine VW.q (VO.a (v := .bool false) rfl (fun _ _ => rfl) (VO.n (VW.k1 2 rfl (VW.hsub (A := hq [] []) (hq_sub (.cons _ .slnil) .slnil) (VW.k1 2 rfl (VW.ret (blockQ_ret (thenQ_ret (thenQ_ret ?_)))))))))
        obtain rfl := oi h
        exact hx1  rfl
      · replace h := iteF h hc_6
        refine VW.skip (blockQ_normal (thenQ_normal (VW.k3 1 3 4 rfl (VW.region (VO.m rfl rfl (VO.t (v := .i (w64 (i_0 + 1))) (t_add rfl rfl (fun _ _ => rfl) rfl) rfl rfl (VO.a (v := .i (w64 (i_0 + 1))) rfl rfl (VO.nil (thenQ_normal (VL.round ?_))))))))))
        refine VW.k3 1 3 4 rfl ?_
        exact ih_ref03_shaped_l0 _ _ _ h _ ob_1 hx0 hx1
    · replace h := iteF h hc_2
      refine VW.subN (t' := []) trivial rfl (VW.hsub (A := hq [] []) (hq_sub (.cons _ .slnil) .slnil) (VW.exit (thenQ_exit (thenQ_exit ?_))))
      obtain rfl := oi h
      exact hx0  rfl
  · intro _ ih_ref03_shaped_l0 a0 r h 
    refine VCalls.of_body 68 [2] Tryd.func44 rfl rfl rfl (nle rfl) (VW.k1 0 rfl (VW.q (VO.w (fun v H' => ∃ ob_1, .ptr ob_1 0 = v ∧ H' = hq ([[(ob_1, .cells (Node.l a0))]]) []) (w_box_q rfl rfl rfl (fun ob => ⟨ob, rfl, rfl⟩)) rfl rfl ?_)))
    rintro _ _ ⟨ob_1, rfl, rfl⟩
    refine VO.a (v := .bool false) rfl (fun _ _ => rfl) (VO.n (VW.k1 1 rfl (VW.q (VO.t (v := .ptr ob_1 3) (t_fieldAddr_ptr rfl fi24_3 rfl rfl) rfl rfl (VO.r (v := .sl .fz (a0.Kids.map Node.c)) (r_load_q (i := 0) rfl sz22 rfl rfl rfl) rfl rfl (VO.t (v := .i (a0.Kids.length : Int)) (t_len rfl ⟨_, Tryd.underlying22⟩ rfl (by rw [List.length_map])) rfl rfl (VO.a (v := .i (a0.Kids.length : Int)) rfl rfl (VO.n (VW.k2 1 3 rfl ?_)))))))))
    refine VW.seq (VW.q (VO.t (v := .ptr ob_1 0) (t_fieldAddr_ptr rfl fi24_0 rfl rfl) rfl rfl (VO.r (v := .i a0.Op) (r_load_q (i := 0) rfl sz3 rfl rfl rfl) rfl rfl (VO.n (VW.k3 1 3 9 rfl ?_)))))
    obtain ⟨o_7, h, hx_8⟩ := obind h
    refine VW.joinQ (E := Unit) (I := fun _ => Sum.inl () = o_7 ∧ True) (env' := fun _ => ⟨[(1, .ptr ob_1 0), (3, .i (a0.Kids.length : Int))], []⟩) (H' := fun _ => hq ([[(ob_1, .cells (Node.l a0))]]) []) ?_ (fun J_9 => ?_)
    · rintro _ ⟨ho_, _⟩
      subst ho_
      replace h := hx_8
      clear hx_8
      try dsimp only at h
      show VW _ _ _ _ ⟨[(1, .ptr ob_1 0), (3, .i (a0.Kids.length : Int))], []⟩ (hq ([[(ob_1, .cells (Node.l a0))]]) [])
      refine VW.seq (VW.q (VO.t (v := .ptr ob_1 1) (t_fieldAddr_ptr rfl fi24_1 rfl rfl) rfl rfl (VO.r (v := .i a0.Lo) (r_load_q (i := 0) rfl sz3 rfl rfl rfl) rfl rfl (VO.t (v := .bool (a0.Lo != 0)) (t_cmp rfl rfl rfl (fun _ _ => rfl) rfl) rfl rfl (VO.m rfl rfl ?_)))))
      refine VO.caseB (d := 51) (b := (a0.Lo != 0)) rfl (fun hc_10 => ?_) (fun hc_10 => ?_)
      · replace h := iteT h hc_10
        refine VO.s rfl (VO.s rfl (VO.s rfl (VO.t (v := .bool true) (t_pick (b := true) rfl rfl (fun _ => (fun _ _ => rfl)) (fun h => by cases h)) rfl rfl (VO.n (VW.k3 1 3 55 rfl (VW.condT rfl (VW.q (VO.a (v := .bool false) rfl (fun _ _ => rfl) (VO.n ?_)))))))))
        refine VW.ret (thenQ_ret ?_)
        cases oi h
        exact ret0 rfl rfl ⟨rfl, rfl⟩
      · replace h := iteF h hc_10
        refine VO.gt (v := .ptr ob_1 2) (t_fieldAddr_ptr rfl fi24_2 rfl rfl) rfl rfl rfl rfl (VO.gr (v := .i a0.Hi) (r_load_q (i := 0) rfl sz3 rfl rfl rfl) rfl rfl rfl rfl (VO.gt (v := .bool (a0.Hi != 0)) (t_cmp rfl rfl rfl (fun _ _ => rfl) rfl) rfl rfl rfl rfl (VO.t (v := .bool (a0.Hi != 0)) (t_pick (b := false) rfl rfl (fun h => by cases h) (fun _ => rfl)) rfl rfl (VO.n (VW.k3 1 3 55 rfl ?_)))))
        refine VW.cond (b := (a0.Hi != 0)) rfl (fun hc_11 => ?_) (fun hc_11 => ?_)
        · replace h := iteT h hc_11
          refine VW.q (VO.a (v := .bool false) rfl (fun _ _ => rfl) (VO.n (VW.ret (thenQ_ret ?_))))
          cases oi h
          exact ret0 rfl rfl ⟨rfl, rfl⟩
        · replace h := iteF h hc_11
          refine VW.skip (thenQ_normal (VW.k2 1 3 rfl (VW.seq (VW.q (VO.a (v := .i 0) rfl (fun _ _ => rfl) (VO.n (VW.block (VW.k3 1 3 4 rfl ?_))))))))
          obtain ⟨o_12, hx_13, h⟩ := obind h
          refine VW.loopL (ih_ref03_shaped_l0 _ _ _ hx_13 _ ob_1 ?_ ?_)
          · intro ho_
            subst ho_
            try dsimp only at h
            refine blockQ_hit (thenQ_normal (VW.q (VO.a (v := .bool true) rfl (fun _ _ => rfl) (VO.n (VW.ret ?_)))))
            cases oi h
            exact ret0 rfl rfl ⟨rfl, rfl⟩
          · intro ho_
            subst ho_
            try dsimp only at h
            refine blockQ_ret (thenQ_ret ?_)
            obtain rfl := oi h
            exact ⟨.inr rfl, rfl, _, .bool false, hq [] [], rfl, VLe.refl _, hq_sub .slnil .slnil, rfl, rfl⟩
    · refine VW.block (VW.q (VO.t (v := .bool (a0.Op == 0)) (t_cmp rfl rfl rfl (fun _ _ => rfl) rfl) rfl rfl (VO.a (v := .bool (a0.Op == 0)) rfl rfl (VO.n (VW.k4 1 3 9 10 rfl ?_)))))
      refine VW.cond (b := (a0.Op == 0)) rfl (fun hc_14 => ?_) (fun hc_14 => ?_)
      · replace h := iteT h hc_14
        refine VW.q (VO.m rfl rfl (VO.t (v := .bool ((a0.Kids.length : Int) == 0)) (t_cmp rfl rfl rfl (fun _ _ => rfl) rfl) rfl rfl (VO.m rfl rfl ?_)))
        refine VO.caseB (d := 14) (b := ((a0.Kids.length : Int) == 0)) rfl (fun hc_15 => ?_) (fun hc_15 => ?_)
        · replace h := iteT h hc_15
          refine VO.gt (v := .ptr ob_1 1) (t_fieldAddr_ptr rfl fi24_1 rfl rfl) rfl rfl rfl rfl (VO.gr (v := .i a0.Lo) (r_load_q (i := 0) rfl sz3 rfl rfl rfl) rfl rfl rfl rfl (VO.gt (v := .ptr ob_1 2) (t_fieldAddr_ptr rfl fi24_2 rfl rfl) rfl rfl rfl rfl (VO.gr (v := .i a0.Hi) (r_load_q (i := 0) rfl sz3 rfl rfl rfl) rfl rfl rfl rfl (VO.gt (v := .bool (decide (a0.Lo ≤ a0.Hi))) (t_cmp rfl rfl rfl rfl rfl) rfl rfl rfl rfl (VO.t (v := .bool (decide (a0.Lo ≤ a0.Hi))) (t_pick (b := true) rfl rfl (fun _ => rfl) (fun h => by cases h)) rfl rfl (VO.m rfl rfl ?_))))))
          refine VO.caseB (d := 21) (b := (decide (a0.Lo ≤ a0.Hi))) rfl (fun hc_16 => ?_) (fun hc_16 => ?_)
          · replace h := iteT h hc_16
            refine VO.gt (v := .ptr ob_1 1) (t_fieldAddr_ptr rfl fi24_1 rfl rfl) rfl rfl rfl rfl (VO.gr (v := .i a0.Lo) (r_load_q (i := 0) rfl sz3 rfl rfl rfl) rfl rfl rfl rfl (VO.gt (v := .bool (decide (a0.Lo ≥ (-1000000000000000)))) (t_cmp rfl rfl rfl (fun _ _ => rfl) rfl) rfl rfl rfl rfl (VO.t (v := .bool (decide (a0.Lo ≥ (-1000000000000000)))) (t_pick (b := true) rfl rfl (fun _ => rfl) (fun h => by cases h)) rfl rfl (VO.m rfl rfl ?_))))
            refine VO.caseB (d := 26) (b := (decide (a0.Lo ≥ (-1000000000000000)))) rfl (fun hc_17 => ?_) (fun hc_17 => ?_)
            · replace h := iteT h hc_17
              refine VO.gt (v := .ptr ob_1 2) (t_fieldAddr_ptr rfl fi24_2 rfl rfl) rfl rfl rfl rfl (VO.gr (v := .i a0.Hi) (r_load_q (i := 0) rfl sz3 rfl rfl rfl) rfl rfl rfl rfl (VO.gt (v := .bool (decide (a0.Hi ≤ 1000000000000000))) (t_cmp rfl rfl rfl (fun _ _ => rfl) rfl) rfl rfl rfl rfl (VO.t (v := .bool (decide (a0.Hi ≤ 1000000000000000))) (t_pick (b := true) rfl rfl (fun _ => rfl) (fun h => by cases h)) rfl rfl (VO.a (v := .bool (decide (a0.Hi ≤ 1000000000000000))) rfl rfl (VO.n (VW.k1 2 rfl (VW.hsub (A := hq [] []) (hq_sub (.cons _ .slnil) .slnil) (VW.ret (blockQ_ret ?_)))))))))
              obtain ⟨z_18, hz_19, h⟩ := obind h
              obtain rfl := oi h
              try dsimp only at hx_8
              have hx_8 := Option.some.inj hx_8
              subst hx_8
              have h := hz_19
              refine thenQ_ret ?_
              obtain rfl := oi h
              exact ⟨.inr rfl, rfl, _, .bool (decide (a0.Hi ≤ 1000000000000000)), hq [] [], rfl, VLe.refl _, hq_sub .slnil .slnil, rfl, rfl⟩
            · replace h := iteF h hc_17
              refine VO.s rfl (VO.s rfl (VO.s rfl (VO.t (v := .bool false) (t_pick (b := false) rfl rfl (fun h => by cases h) (fun _ => (fun _ _ => rfl))) rfl rfl (VO.a (v := .bool false) rfl rfl (VO.n (VW.k1 2 rfl (VW.hsub (A := hq [] []) (hq_sub (.cons _ .slnil) .slnil) (VW.ret (blockQ_ret ?_)))))))))
              obtain ⟨z_20, hz_21, h⟩ := obind h
              obtain rfl := oi h
              try dsimp only at hx_8
              have hx_8 := Option.some.inj hx_8
              subst hx_8
              have h := hz_21
              refine thenQ_ret ?_
              obtain rfl := oi h
              exact ⟨.inr rfl, rfl, _, .bool false, hq [] [], rfl, VLe.refl _, hq_sub .slnil .slnil, rfl, rfl⟩
          · replace h := iteF h hc_16
            refine VO.s rfl (VO.s rfl (VO.s rfl (VO.t (v := .bool false) (t_pick (b := false) rfl rfl (fun h => by cases h) (fun _ => (fun _ _ => rfl))) rfl rfl (VO.m rfl rfl (VO.s rfl (VO.s rfl (VO.s rfl (VO.t (v := .bool false) (t_pick (b := false) rfl rfl (fun h => by cases h) (fun _ => (fun _ _ => rfl))) rfl rfl (VO.a (v := .bool false) rfl rfl ?_)))))))))
            refine VO.n (VW.k1 2 rfl (VW.hsub (A := hq [] []) (hq_sub (.cons _ .slnil) .slnil) (VW.ret (blockQ_ret ?_))))
            obtain ⟨z_22, hz_23, h⟩ := obind h
            obtain rfl := oi h
            try dsimp only at hx_8
            have hx_8 := Option.some.inj hx_8
            subst hx_8
            have h := hz_23
            refine thenQ_ret ?_
            obtain rfl := oi h
            exact ⟨.inr rfl, rfl, _, .bool false, hq [] [], rfl, VLe.refl _, hq_sub .slnil .slnil, rfl, rfl⟩
        · replace h := iteF h hc_15
          refine VO.s rfl (VO.s rfl (VO.s rfl (VO.s rfl (VO.s rfl (VO.t (v := .bool false) (t_pick (b := false) rfl rfl (fun h => by cases h) (fun _ => (fun _ _ => rfl))) rfl rfl (VO.m rfl rfl (VO.s rfl (VO.s rfl (VO.s rfl ?_)))))))))
          refine VO.t (v := .bool false) (t_pick (b := false) rfl rfl (fun h => by cases h) (fun _ => (fun _ _ => rfl))) rfl rfl (VO.m rfl rfl (VO.s rfl (VO.s rfl (VO.s rfl (VO.t (v := .bool false) (t_pick (b := false) rfl rfl (fun h => by cases h) (fun _ => (fun _ _ => rfl))) rfl rfl (VO.a (v := .bool false) rfl rfl (VO.n (VW.k1 2 rfl (VW.hsub (A := hq [] []) (hq_sub (.cons _ .slnil) .slnil) ?_)))))))))
          refine VW.ret (blockQ_ret ?_)
          obtain ⟨z_24, hz_25, h⟩ := obind h
          obtain rfl := oi h
          try dsimp only at hx_8
          have hx_8 := Option.some.inj hx_8
          subst hx_8
          have h := hz_25
          refine thenQ_ret ?_
          obtain rfl := oi h
          exact ⟨.inr rfl, rfl, _, .bool false, hq [] [], rfl, VLe.refl _, hq_sub .slnil .slnil, rfl, rfl⟩
      · replace h := iteF h hc_14
        refine VW.seq (VW.q (VO.t (v := .bool (a0.Op == 1)) (t_cmp rfl rfl rfl (fun _ _ => rfl) rfl) rfl rfl (VO.a (v := .bool (a0.Op == 1)) rfl rfl (VO.n (VW.k4 1 3 9 31 rfl ?_)))))
        obtain ⟨o_26, h, hx_27⟩ := obind h
        refine VW.joinQ (E := Bool) (I := fun x_28 => x_28 = o_26 ∧ True) (env' := fun x_28 => ⟨[(1, .ptr ob_1 0), (3, .i (a0.Kids.length : Int)), (9, .i a0.Op), (31, .bool x_28)], []⟩) (H' := fun x_28 => hq ([[(ob_1, .cells (Node.l a0))]]) []) ?_ (fun J_29 => ?_)
        · rintro x_28 ⟨ho_, _⟩
          subst ho_
          replace h := hx_27
          clear hx_27
          try dsimp only at h
          show VW _ _ _ _ ⟨[(1, .ptr ob_1 0), (3, .i (a0.Kids.length : Int)), (9, .i a0.Op), (31, .bool x_28)], []⟩ (hq ([[(ob_1, .cells (Node.l a0))]]) [])
          refine VW.cond (b := x_28) rfl (fun hc_30 => ?_) (fun hc_30 => ?_)
          · replace h := iteT h hc_30
            refine VW.q (VO.m rfl rfl (VO.t (v := .bool (decide ((a0.Kids.length : Int) < 2))) (t_cmp rfl rfl rfl (fun _ _ => rfl) rfl) rfl rfl (VO.n (VW.k3 1 3 35 rfl ?_))))
            refine VW.cond (b := (decide ((a0.Kids.length : Int) < 2))) rfl (fun hc_31 => ?_) (fun hc_31 => ?_)
            · replace h := iteT h hc_31
              refine VW.q (VO.a (v := .bool false) rfl (fun _ _ => rfl) (VO.n (VW.k1 2 rfl (VW.hsub (A := hq [] []) (hq_sub (.cons _ .slnil) .slnil) (VW.ret (blockQ_ret ?_))))))
              obtain ⟨z_32, hz_33, h⟩ := obind h
              obtain rfl := oi h
              try dsimp only at hx_8
              have hx_8 := Option.some.inj hx_8
              subst hx_8
              have h := hz_33
              refine thenQ_ret ?_
              obtain rfl := oi h
              exact ⟨.inr rfl, rfl, _, .bool false, hq [] [], rfl, VLe.refl _, hq_sub .slnil .slnil, rfl, rfl⟩
            · replace h := iteF h hc_31
              refine VW.k2 1 3 rfl (VW.skip (blockQ_normal ?_))
              exact thenQ_normal (J_9 () ⟨Option.some.inj h, trivial⟩)
          · replace h := iteF h hc_30
            refine VW.q (VO.t (v := .bool (a0.Op == 3)) (t_cmp rfl rfl rfl (fun _ _ => rfl) rfl) rfl rfl (VO.a (v := .bool (a0.Op == 3)) rfl rfl (VO.n (VW.k4 1 3 9 36 rfl ?_))))
            refine VW.cond (b := (a0.Op == 3)) rfl (fun hc_34 => ?_) (fun hc_34 => ?_)
            · replace h := iteT h hc_34
              refine VW.q (VO.m rfl rfl (VO.t (v := .bool ((a0.Kids.length : Int) != 2)) (t_cmp rfl rfl rfl (fun _ _ => rfl) rfl) rfl rfl (VO.n (VW.k3 1 3 39 rfl ?_))))
              refine VW.cond (b := ((a0.Kids.length : Int) != 2)) rfl (fun hc_35 => ?_) (fun hc_35 => ?_)
              · replace h := iteT h hc_35
                refine VW.q (VO.a (v := .bool false) rfl (fun _ _ => rfl) (VO.n (VW.k1 2 rfl (VW.hsub (A := hq [] []) (hq_sub (.cons _ .slnil) .slnil) (VW.ret (blockQ_ret ?_))))))
                obtain ⟨z_36, hz_37, h⟩ := obind h
                obtain rfl := oi h
                try dsimp only at hx_8
                have hx_8 := Option.some.inj hx_8
                subst hx_8
                have h := hz_37
                refine thenQ_ret ?_
                obtain rfl := oi h
                exact ⟨.inr rfl, rfl, _, .bool false, hq [] [], rfl, VLe.refl _, hq_sub .slnil .slnil, rfl, rfl⟩
              · replace h := iteF h hc_35
                refine VW.k2 1 3 rfl (VW.skip (blockQ_normal ?_))
                exact thenQ_normal (J_9 () ⟨Option.some.inj h, trivial⟩)
            · replace h := iteF h hc_34
              refine VW.q (VO.t (v := .bool (a0.Op == 4)) (t_cmp rfl rfl rfl (fun _ _ => rfl) rfl) rfl rfl (VO.a (v := .bool (a0.Op == 4)) rfl rfl (VO.n (VW.k4 1 3 9 40 rfl ?_))))
              refine VW.cond (b := (a0.Op == 4)) rfl (fun hc_38 => ?_) (fun hc_38 => ?_)
              · replace h := iteT h hc_38
                refine VW.q (VO.m rfl rfl (VO.t (v := .bool ((a0.Kids.length : Int) != 0)) (t_cmp rfl rfl rfl (fun _ _ => rfl) rfl) rfl rfl (VO.n (VW.k3 1 3 43 rfl ?_))))
                refine VW.cond (b := ((a0.Kids.length : Int) != 0)) rfl (fun hc_39 => ?_) (fun hc_39 => ?_)
                · replace h := iteT h hc_39
                  refine VW.q (VO.a (v := .bool false) rfl (fun _ _ => rfl) (VO.n (VW.k1 2 rfl (VW.hsub (A := hq [] []) (hq_sub (.cons _ .slnil) .slnil) (VW.ret (blockQ_ret ?_))))))
                  obtain ⟨z_40, hz_41, h⟩ := obind h
                  obtain rfl := oi h
                  try dsimp only at hx_8
                  have hx_8 := Option.some.inj hx_8
                  subst hx_8
                  have h := hz_41
                  refine thenQ_ret ?_
                  obtain rfl := oi h
                  exact ⟨.inr rfl, rfl, _, .bool false, hq [] [], rfl, VLe.refl _, hq_sub .slnil .slnil, rfl, rfl⟩
                · replace h := iteF h hc_39
                  refine VW.k2 1 3 rfl (VW.skip (blockQ_normal ?_))
                  exact thenQ_normal (J_9 () ⟨Option.some.inj h, trivial⟩)
              · replace h := iteF h hc_38
                refine VW.q (VO.t (v := .bool (a0.Op == 5)) (t_cmp rfl rfl rfl (fun _ _ => rfl) rfl) rfl rfl (VO.a (v := .bool (a0.Op == 5)) rfl rfl (VO.n (VW.k3 1 3 44 rfl ?_))))
                refine VW.cond (b := (a0.Op == 5)) rfl (fun hc_42 => ?_) (fun hc_42 => ?_)
                · replace h := iteT h hc_42
                  refine VW.q (VO.m rfl rfl (VO.t (v := .bool ((a0.Kids.length : Int) != 1)) (t_cmp rfl rfl rfl (fun _ _ => rfl) rfl) rfl rfl (VO.n (VW.k3 1 3 47 rfl ?_))))
                  refine VW.cond (b := ((a0.Kids.length : Int) != 1)) rfl (fun hc_43 => ?_) (fun hc_43 => ?_)
                  · replace h := iteT h hc_43
                    refine VW.q (VO.a (v := .bool false) rfl (fun _ _ => rfl) (VO.n (VW.k1 2 rfl (VW.hsub (A := hq [] []) (hq_sub (.cons _ .slnil) .slnil) (VW.ret (blockQ_ret ?_))))))
                    obtain ⟨z_44, hz_45, h⟩ := obind h
                    obtain rfl := oi h
                    try dsimp only at hx_8
                    have hx_8 := Option.some.inj hx_8
                    subst hx_8
                    have h := hz_45
                    refine thenQ_ret ?_
                    obtain rfl := oi h
                    exact ⟨.inr rfl, rfl, _, .bool false, hq [] [], rfl, VLe.refl _, hq_sub .slnil .slnil, rfl, rfl⟩
                  · replace h := iteF h hc_43
                    refine VW.k2 1 3 rfl (VW.skip (blockQ_normal ?_))
                    exact thenQ_normal (J_9 () ⟨Option.some.inj h, trivial⟩)
                · replace h := iteF h hc_42
                  refine VW.q (VO.a (v := .bool false) rfl (fun _ _ => rfl) (VO.n (VW.k1 2 rfl (VW.hsub (A := hq [] []) (hq_sub (.cons _ .slnil) .slnil) (VW.ret (blockQ_ret ?_))))))
                  obtain ⟨z_46, hz_47, h⟩ := obind h
                  obtain rfl := oi h
                  try dsimp only at hx_8
                  have hx_8 := Option.some.inj hx_8
                  subst hx_8
                  have h := hz_47
                  refine thenQ_ret ?_
                  obtain rfl := oi h
                  exact ⟨.inr rfl, rfl, _, .bool false, hq [] [], rfl, VLe.refl _, hq_sub .slnil .slnil, rfl, rfl⟩
        · refine VW.cond (b := (a0.Op == 1)) rfl (fun hc_48 => ?_) (fun hc_48 => ?_)
          · replace h := iteT h hc_48
            refine VW.k4 1 3 9 31 rfl (VW.skip ?_)
            exact thenQ_normal (J_29 (a0.Op == 1) ⟨Option.some.inj h, trivial⟩)
          · replace h := iteF h hc_48
            refine VW.region (VO.t (v := .bool (a0.Op == 2)) (t_cmp rfl rfl rfl (fun _ _ => rfl) rfl) rfl rfl (VO.a (v := .bool (a0.Op == 2)) rfl rfl (VO.subK (.c 1 rfl (.c 3 rfl (.c 9 rfl (.c 31 rfl .n)))) rfl (VO.nil ?_))))
            exact thenQ_normal (J_29 (a0.Op == 2) ⟨Option.some.inj h, trivial⟩)

theorem ref03_Check_ok (a0 : Node) (r : Int) (h : PL.ref03_Check a0 = some r) :
    VCalls Tryd.prog 25 [.agg (Node.l a0)] (hq [] []) (fun v H => .i r = v ∧ H = hq [] []) := by
  unfold PL.ref03_Check at h
  refine VCalls.of_body 19 [2] Tryd.func25 rfl rfl rfl (nle rfl) (VW.k1 0 rfl (VW.q (VO.w (fun v H' => ∃ ob_0, .ptr ob_0 0 = v ∧ H' = hq ([[(ob_0, .cells (Node.l a0))]]) []) (w_box_q rfl rfl rfl (fun ob => ⟨ob, rfl, rfl⟩)) rfl rfl ?_)))
  rintro _ _ ⟨ob_0, rfl, rfl⟩
  refine VO.a (v := .i 0) rfl (fun _ _ => rfl) (VO.n (VW.k1 1 rfl (VW.q (VO.r (v := .agg (Node.l a0)) (r_load_q (i := 0) rfl sz24 rfl rfl rfl) rfl rfl ?_))))
  obtain ⟨⟨rv_1, rv_2⟩, hx_3, h⟩ := obind h
  try dsimp only at h
  refine VO.k (w_keep rfl fn43 rfl ⟨_, _, rfl, rfl, rfl⟩ (ref03_size_ok _ _ hx_3)) rfl rfl (VO.m rfl rfl (VO.t (v := .i rv_1) (t_extract rfl rfl rfl) rfl rfl (VO.t (v := .i rv_2) (t_extract rfl rfl rfl) rfl rfl (VO.a (v := .i rv_1) rfl rfl (VO.a (v := .i rv_2) rfl rfl (VO.n (VW.k3 1 3 4 rfl (VW.seq (VW.q ?_)))))))))
  refine VO.m rfl rfl (VO.t (v := .bool (decide (rv_1 > 200))) (t_cmp rfl rfl rfl (fun _ _ => rfl) rfl) rfl rfl (VO.m rfl rfl ?_))
  refine VO.caseB (d := 12) (b := (decide (rv_1 > 200))) rfl (fun hc_4 => ?_) (fun hc_4 => ?_)
  · replace h := iteT h hc_4
    refine VO.s rfl (VO.s rfl (VO.t (v := .bool true) (t_pick (b := true) rfl rfl (fun _ => (fun _ _ => rfl)) (fun h => by cases h)) rfl rfl (VO.n (VW.k2 1 15 rfl (VW.condT rfl (VW.q (VO.a (v := .i 2) rfl (fun _ _ => rfl) (VO.n (VW.ret ?_)))))))))
    refine thenQ_ret ?_
    cases oi h
    exact ret0 rfl rfl ⟨rfl, rfl⟩
  · replace h := iteF h hc_4
    refine VO.gt (v := .i rv_2) (t_move rfl rfl) rfl rfl rfl rfl (VO.gt (v := .bool (decide (rv_2 > 20))) (t_cmp rfl rfl rfl (fun _ _ => rfl) rfl) rfl rfl rfl rfl (VO.t (v := .bool (decide (rv_2 > 20))) (t_pick (b := false) rfl rfl (fun h => by cases h) (fun _ => rfl)) rfl rfl (VO.n (VW.k2 1 15 rfl ?_))))
    refine VW.cond (b := (decide (rv_2 > 20))) rfl (fun hc_5 => ?_) (fun hc_5 => ?_)
    · replace h := iteT h hc_5
      refine VW.q (VO.a (v := .i 2) rfl (fun _ _ => rfl) (VO.n (VW.ret (thenQ_ret ?_))))
      cases oi h
      exact ret0 rfl rfl ⟨rfl, rfl⟩
    · replace h := iteF h hc_5
      refine VW.skip (thenQ_normal (VW.k1 1 rfl (VW.seq (VW.q (VO.r (v := .agg (Node.l a0)) (r_load_q (i := 0) rfl sz24 rfl rfl rfl) rfl rfl ?_)))))
      obtain ⟨rv_6, hx_7, h⟩ := obind h
      refine VO.k (w_keep rfl fn44 rfl ⟨_, _, rfl, rfl, rfl⟩ (ref03_shaped_ok _ _ hx_7)) rfl rfl (VO.t (v := .bool (!rv_6)) (t_not rfl rfl rfl) rfl rfl (VO.n (VW.k1 18 rfl (VW.hsub (A := hq [] []) (hq_sub (.cons _ .slnil) .slnil) ?_))))
      refine VW.cond (b := (!rv_6)) rfl (fun hc_8 => ?_) (fun hc_8 => ?_)
      · replace h := iteT h hc_8
        refine VW.q (VO.a (v := .i 1) rfl (fun _ _ => rfl) (VO.n (VW.ret (thenQ_ret ?_))))
        cases oi h
        exact ret0 rfl rfl ⟨rfl, rfl⟩
      · replace h := iteF h hc_8
        refine VW.skip (thenQ_normal (VW.subN (t' := []) trivial rfl (VW.q (VO.a (v := .i 0) rfl (fun _ _ => rfl) (VO.n (VW.ret ?_))))))
        cases oi h
        exact ret0 rfl rfl ⟨rfl, rfl⟩

theorem ref03_told_ok (a0 : List Pr) (r : List Pr × Int) (h : PL.ref03_told a0 = some r) :
    VCalls Tryd.prog 26 [.sl .fz (a0.map Pr.c)] (hq [] []) (fun v H => .tup [.sl .fz (r.1.map Pr.c), .i r.2] = v ∧ H = hq [] []) := by
  unfold PL.ref03_told at h
  refine VCalls.of_body 8 [2, 3] Tryd.func26 rfl rfl rfl (nle rfl) (VW.k1 0 rfl (VW.q (VO.a (v := .sl .nl []) rfl (fun _ _ => .inl ⟨rfl, .inl rfl⟩) (VO.a (v := .i 0) rfl (fun _ _ => rfl) (VO.n (VW.k1 0 rfl (VW.seq (VW.q (VO.m rfl rfl ?_)))))))))
  refine VO.t (v := .i (a0.length : Int)) (t_len rfl ⟨_, Tryd.underlying31⟩ rfl (by rw [List.length_map])) rfl rfl (VO.t (v := .bool (decide ((a0.length : Int) > 100))) (t_cmp rfl rfl rfl (fun _ _ => rfl) rfl) rfl rfl (VO.n (VW.k2 0 6 rfl ?_)))
  refine VW.cond (b := (decide ((a0.length : Int) > 100))) rfl (fun hc_0 => ?_) (fun hc_0 => ?_)
  · replace h := iteT h hc_0
    refine VW.q (VO.a (v := .sl .nl []) rfl (fun _ _ => .inl ⟨rfl, .inl rfl⟩) (VO.a (v := .i 2) rfl (fun _ _ => rfl) (VO.n (VW.k2 2 3 rfl (VW.ret (thenQ_ret ?_))))))
    obtain rfl := oi h
    exact ⟨.inr rfl, rfl, _, .tup [.sl .fz [], .i 2], hq [] [], ⟨_, _, rfl, rfl, rfl⟩, VLe.tup ⟨VLe.sl _ _, VLe.refl _, trivial⟩, hq_sub .slnil .slnil, rfl, rfl⟩
  · replace h := iteF h hc_0
    refine VW.skip (thenQ_normal (VW.k1 0 rfl (VW.q (VO.m rfl rfl (VO.a (v := .sl .fz (a0.map Pr.c)) rfl rfl (VO.a (v := .i 0) rfl (fun _ _ => rfl) (VO.n (VW.k2 2 3 rfl (VW.ret ?_)))))))))
    obtain rfl := oi h
    exact ⟨.inr rfl, rfl, _, .tup [.sl .fz (a0.map Pr.c), .i 0], hq [] [], ⟨_, _, rfl, rfl, rfl⟩, VLe.tup ⟨VLe.refl _, VLe.refl _, trivial⟩, hq_sub .slnil .slnil, rfl, rfl⟩

theorem ref03_put.l0_ok (a0 : List Int) (a1 : Int) {Q : Exit → Env → HH → Prop} :
    ∀ (out_0 : List Int) (done_1 : Bool) (i_2 : Int) (o : (List Int × Bool)), PL.ref03_put.l0 a0 a1 out_0 done_1 i_2 = some o →
    ∀ (tk_3 : Tok) (hg_4 : Tok.grow tk_3 1 (out_0.map (cInt .i64))) (hx0 : ∀ (out_5 : List Int) (done_6 : Bool) (tk_7 : Tok), (out_5, done_6) = o → Tok.grow tk_7 1 (out_5.map (cInt .i64)) → Q (.exit 0) ⟨[(1, .i a1), (5, .sl tk_7 (out_5.map (cInt .i64))), (6, .bool done_6)], []⟩ (hq [] ([tk_7]))), VW Tryd.prog 48 (codeAt [1, 1, 1, 0, 1, 0, 0] (bodyOf Tryd.f45)) (thenQ (VL Tryd.prog 48 (codeAt [1, 1, 1, 0, 1, 0, 0] (bodyOf Tryd.f45)) Q) Q) ⟨[(0, .sl .fz (a0.map (cInt .i64))), (1, .i a1), (5, .sl tk_3 (out_0.map (cInt .i64))), (6, .bool done_1), (7, .i i_2)], []⟩ (hq [] ([tk_3])) := by
  refine PL.ref03_put.l0.partial_correctness a0 a1 (motive := fun out_0 done_1 i_2 o => ∀ (tk_3 : Tok) (hg_4 : Tok.grow tk_3 1 (out_0.map (cInt .i64))) (hx0 : ∀ (out_5 : List Int) (done_6 : Bool) (tk_7 : Tok), (out_5, done_6) = o → Tok.grow tk_7 1 (out_5.map (cInt .i64)) → Q (.exit 0) ⟨[(1, .i a1), (5, .sl tk_7 (out_5.map (cInt .i64))), (6, .bool done_6)], []⟩ (hq [] ([tk_7]))), VW Tryd.prog 48 (codeAt [1, 1, 1, 0, 1, 0, 0] (bodyOf Tryd.f45)) (thenQ (VL Tryd.prog 48 (codeAt [1, 1, 1, 0, 1, 0, 0] (bodyOf Tryd.f45)) Q) Q) ⟨[(0, .sl .fz (a0.map (cInt .i64))), (1, .i a1), (5, .sl tk_3 (out_0.map (cInt .i64))), (6, .bool done_1), (7, .i i_2)], []⟩ (hq [] ([tk_3]))) ?_
  intro _ ih out_0 done_1 i_2 o h tk_3 hg_4 hx0
  refine VW.seq (VW.q (VO.m rfl rfl (VO.m rfl rfl (VO.t (v := .i (a0.length : Int)) (t_len rfl ⟨_, Tryd.underlying80⟩ rfl (by rw [List.length_map])) rfl rfl (VO.t (v := .bool (decide (i_2 < (a0.length : Int)))) (t_cmp rfl rfl rfl rfl rfl) rfl rfl (VO.n (VW.k6 0 1 5 6 7 11 rfl ?_)))))))
  refine VW.cond (b := (decide (i_2 < (a0.length : Int)))) rfl (fun hc_8 => ?_) (fun hc_8 => ?_)
  · replace h := iteT h hc_8
    refine VW.skip (thenQ_normal (VW.k5 0 1 5 6 7 rfl (VW.seq (VW.block (VW.seq (VW.seq ?_))))))
    obtain ⟨o_9, h, hx_10⟩ := obind h
    refine VW.joinQ (E := Bool) (I := fun x_11 => x_11 = o_9 ∧ True) (env' := fun x_11 => ⟨[(0, .sl .fz (a0.map (cInt .i64))), (1, .i a1), (5, .sl tk_3 (out_0.map (cInt .i64))), (6, .bool done_1), (7, .i i_2), (23, .bool x_11)], []⟩) (H' := fun x_11 => hq [] ([tk_3])) ?_ (fun J_12 => ?_)
    · rintro x_11 ⟨ho_, _⟩
      subst ho_
      replace h := hx_10
      clear hx_10
      try dsimp only at h
      show VW _ _ _ _ ⟨[(0, .sl .fz (a0.map (cInt .i64))), (1, .i a1), (5, .sl tk_3 (out_0.map (cInt .i64))), (6, .bool done_1), (7, .i i_2), (23, .bool x_11)], []⟩ (hq [] ([tk_3]))
      obtain ⟨o_13, h, hx_14⟩ := obind h
      refine VW.joinQ (E := List Int × Bool × Tok) (I := fun ⟨out_15, done_16, tk_17⟩ => (out_15, done_16) = o_13 ∧ Tok.grow tk_17 1 (out_15.map (cInt .i64)) ∧ True) (env' := fun ⟨out_15, done_16, tk_17⟩ => ⟨[(0, .sl .fz (a0.map (cInt .i64))), (1, .i a1), (7, .i i_2), (5, .sl tk_17 (out_15.map (cInt .i64))), (6, .bool done_16)], []⟩) (H' := fun ⟨out_15, done_16, tk_17⟩ => hq [] ([tk_17])) ?_ (fun J_18 => ?_)
      · rintro ⟨out_15, done_16, tk_17⟩ ⟨ho_, hg_19, _⟩
        subst ho_
        replace h := hx_14
        clear hx_14
        try dsimp only at h
        show VW _ _ _ _ ⟨[(0, .sl .fz (a0.map (cInt .i64))), (1, .i a1), (7, .i i_2), (5, .sl tk_17 (out_15.map (cInt .i64))), (6, .bool done_16)], []⟩ (hq [] ([tk_17]))
        refine VW.region (VO.m rfl rfl (VO.m rfl rfl (VO.m rfl rfl ?_)))
        obtain ⟨c_20, hc_20, h⟩ := obind h
        refine VO.t (v := .vptr [.i c_20]) (t_indexAddr rfl sl80 rfl rfl (getI_some hc_20).1 (map_get (getI_some hc_20).2 rfl) rfl) rfl rfl (VO.r (v := .i c_20) (r_load_v rfl sz3 rfl rfl) rfl rfl (VO.w (fun v H' => ∃ t_21, .sl (.cap t_21 1) (([c_20]).map (cInt .i64)) = v ∧ H' = hq [] ([.cap t_21 1, tk_17])) (w_buildSlice (l := [[.i c_20]]) rfl el80 ⟨rfl, _, _, rfl, rfl, rfl, rfl, rfl⟩ rfl (nle rfl) (fun tk => ⟨tk, by simp only [List.map_cons, List.map_nil, cInt, cBool, cStr, cSl], rfl⟩)) rfl rfl ?_))
        rintro _ _ ⟨t_21, rfl, rfl⟩
        obtain ⟨_, hr_22, h⟩ := obind h
        refine VO.w (fun v H' => ∃ t_23, .sl (.cap t_23 1) ((out_15 ++ ([c_20])).map (cInt .i64)) = v ∧ H' = hq [] ([.cap t_23 1, .cap t_21 1])) (w_append (objs := List.flatten []) (tks := [.cap t_21 1, tk_17]) (i := 1) rfl el80 rfl rfl hg_19 rfl (elemsOK_map (cInt_ok .i64) _) (by have := room_some hr_22; simpa using this) (nle rfl) (fun t => ⟨t, by simp only [List.map_append, List.map_nil, List.nil_append], rfl⟩)) rfl rfl ?_
        rintro _ _ ⟨t_23, rfl, rfl⟩
        refine VO.a (v := .sl (.cap t_23 1) ((out_15 ++ ([c_20])).map (cInt .i64))) rfl rfl (VO.nil (blockQ_normal (thenQ_normal (VW.k5 0 1 7 6 5 rfl (VW.hsub (A := hq [] ([.cap t_23 1])) (hq_sub .slnil (.cons_cons _ (.cons _ .slnil))) (VW.region (VO.m rfl rfl (VO.t (v := .i (w64 (i_2 + 1))) (t_add rfl rfl (fun _ _ => rfl) rfl) rfl rfl (VO.a (v := .i (w64 (i_2 + 1))) rfl rfl ?_)))))))))
        refine VO.nil (thenQ_normal (VL.round ?_))
        refine VW.k5 0 1 5 6 7 rfl ?_
        exact ih _ _ _ _ h (.cap t_23 1) (.inr ⟨_, rfl⟩) hx0
      · refine VW.cond (b := x_11) rfl (fun hc_24 => ?_) (fun hc_24 => ?_)
        · replace h := iteT h hc_24
          refine VW.seq (VW.q (VO.m rfl rfl (VO.m rfl rfl (VO.m rfl rfl ?_))))
          obtain ⟨c_25, hc_25, h⟩ := obind h
          refine VO.t (v := .vptr [.i c_25]) (t_indexAddr rfl sl80 rfl rfl (getI_some hc_25).1 (map_get (getI_some hc_25).2 rfl) rfl) rfl rfl (VO.r (v := .i c_25) (r_load_v rfl sz3 rfl rfl) rfl rfl (VO.t (v := .bool (decide (a1 < c_25))) (t_cmp rfl rfl rfl rfl rfl) rfl rfl (VO.n (VW.k5 0 1 5 7 29 rfl ?_))))
          refine VW.cond (b := (decide (a1 < c_25))) rfl (fun hc_26 => ?_) (fun hc_26 => ?_)
          · replace h := iteT h hc_26
            refine VW.region (VO.m rfl rfl (VO.m rfl rfl (VO.w (fun v H' => ∃ t_27, .sl (.cap t_27 1) (([a1]).map (cInt .i64)) = v ∧ H' = hq [] ([.cap t_27 1, tk_3])) (w_buildSlice (l := [[.i a1]]) rfl el80 ⟨rfl, _, _, rfl, rfl, rfl, rfl, rfl⟩ rfl (nle rfl) (fun tk => ⟨tk, by simp only [List.map_cons, List.map_nil, cInt, cBool, cStr, cSl], rfl⟩)) rfl rfl ?_)))
            rintro _ _ ⟨t_27, rfl, rfl⟩
            obtain ⟨_, hr_28, h⟩ := obind h
            refine VO.w (fun v H' => ∃ t_29, .sl (.cap t_29 1) ((out_0 ++ ([a1])).map (cInt .i64)) = v ∧ H' = hq [] ([.cap t_29 1, .cap t_27 1])) (w_append (objs := List.flatten []) (tks := [.cap t_27 1, tk_3]) (i := 1) rfl el80 rfl rfl hg_4 rfl (elemsOK_map (cInt_ok .i64) _) (by have := room_some hr_28; simpa using this) (nle rfl) (fun t => ⟨t, by simp only [List.map_append, List.map_nil, List.nil_append], rfl⟩)) rfl rfl ?_
            rintro _ _ ⟨t_29, rfl, rfl⟩
            refine VO.a (v := .sl (.cap t_29 1) ((out_0 ++ ([a1])).map (cInt .i64))) rfl rfl (VO.n (VW.k4 0 1 7 5 rfl (VW.hsub (A := hq [] ([.cap t_29 1])) (hq_sub .slnil (.cons_cons _ (.cons _ .slnil))) (VW.region (VO.a (v := .bool true) rfl (fun _ _ => rfl) (VO.subK (.c 0 rfl (.c 1 rfl (.c 7 rfl (.c 5 rfl (.c 6 rfl .n))))) rfl (VO.nil ?_)))))))
            exact thenQ_normal (J_18 ⟨out_0 ++ ([a1]), true, (.cap t_29 1)⟩ ⟨Option.some.inj h, (.inr ⟨_, rfl⟩), trivial⟩)
          · replace h := iteF h hc_26
            refine VW.skip (thenQ_normal (VW.k4 0 1 5 7 rfl (VW.region (VO.a (v := .bool true) rfl (fun _ _ => rfl) (VO.subK (.c 0 rfl (.c 1 rfl (.c 7 rfl (.c 5 rfl (.c 6 rfl .n))))) rfl (VO.nil ?_))))))
            exact thenQ_normal (J_18 ⟨out_0, true, tk_3⟩ ⟨Option.some.inj h, hg_4, trivial⟩)
        · replace h := iteF h hc_24
          refine VW.k5 0 1 7 5 6 rfl (VW.skip ?_)
          exact thenQ_normal (J_18 ⟨out_0, done_1, tk_3⟩ ⟨Option.some.inj h, hg_4, trivial⟩)
    · refine VW.region (VO.m rfl rfl (VO.t (v := .bool (!done_1)) (t_not rfl rfl rfl) rfl rfl (VO.m rfl rfl ?_)))
      refine VO.caseB (d := 16) (b := (!done_1)) rfl (fun hc_30 => ?_) (fun hc_30 => ?_)
      · replace h := iteT h hc_30
        refine VO.gt (v := .i a1) (t_move rfl rfl) rfl rfl rfl rfl (VO.gt (v := .sl .fz (a0.map (cInt .i64))) (t_move rfl rfl) rfl rfl rfl rfl (VO.gt (v := .i i_2) (t_move rfl rfl) rfl rfl rfl rfl ?_))
        obtain ⟨c_31, hc_31, h⟩ := obind h
        refine VO.gt (v := .vptr [.i c_31]) (t_indexAddr rfl sl80 rfl rfl (getI_some hc_31).1 (map_get (getI_some hc_31).2 rfl) rfl) rfl rfl rfl rfl (VO.gr (v := .i c_31) (r_load_v rfl sz3 rfl rfl) rfl rfl rfl rfl (VO.gt (v := .bool (decide (a1 ≤ c_31))) (t_cmp rfl rfl rfl rfl rfl) rfl rfl rfl rfl (VO.t (v := .bool (decide (a1 ≤ c_31))) (t_pick (b := true) rfl rfl (fun _ => rfl) (fun h => by cases h)) rfl rfl (VO.subK (.c 0 rfl (.c 1 rfl (.c 5 rfl (.c 6 rfl (.c 7 rfl (.c 23 rfl .n)))))) rfl (VO.nil ?_)))))
        exact thenQ_normal (J_12 (decide (a1 ≤ c_31)) ⟨Option.some.inj h, trivial⟩)
      · replace h := iteF h hc_30
        refine VO.s rfl (VO.s rfl (VO.s rfl (VO.s rfl (VO.s rfl (VO.s rfl (VO.t (v := .bool false) (t_pick (b := false) rfl rfl (fun h => by cases h) (fun _ => (fun _ _ => rfl))) rfl rfl (VO.subK (.c 0 rfl (.c 1 rfl (.c 5 rfl (.c 6 rfl (.c 7 rfl (.c 23 rfl .n)))))) rfl (VO.nil ?_))))))))
        exact thenQ_normal (J_12 false ⟨Option.some.inj h, trivial⟩)
  · replace h := iteF h hc_8
    refine VW.k3 1 5 6 rfl (VW.exit (thenQ_exit (thenQ_exit ?_)))
    obtain rfl := oi h
    exact hx0 _ _ tk_3 rfl hg_4

theorem ref03_put_ok (a0 : List Int) (a1 : Int) (r : List Int) (h : PL.ref03_put a0 a1 = some r) :
    VCalls Tryd.prog 45 [.sl .fz (a0.map (cInt .i64)), .i a1] (hq [] []) (fun v H => .sl .fz (r.map (cInt .i64)) = v ∧ H = hq [] []) := by
  unfold PL.ref03_put at h
  refine VCalls.of_body 48 [4] Tryd.func45 rfl rfl rfl (nle rfl) (VW.k2 0 1 rfl (VW.q (VO.a (v := .sl .nl []) rfl (fun _ _ => .inl ⟨rfl, .inl rfl⟩) (VO.n (VW.k2 0 1 rfl (VW.q (VO.a (v := .sl .nl []) rfl (fun _ _ => .inl ⟨rfl, .inl rfl⟩) (VO.n (VW.q ?_)))))))))
  refine VO.a (v := .bool false) rfl (fun _ _ => rfl) (VO.n (VW.seq (VW.q (VO.a (v := .i 0) rfl (fun _ _ => rfl) (VO.n (VW.block (VW.k5 0 1 5 6 7 rfl (VW.eqv (A := hq [] ([.nl])) (.refl _) ?_))))))))
  obtain ⟨o_0, hx_1, h⟩ := obind h
  refine VW.loopL (ref03_put.l0_ok a0 a1 _ _ _ _ hx_1 .nl (.inl ⟨rfl, rfl⟩) ?_)
  · intro out_2 done_3 tk_4 ho_ hg_5
    subst ho_
    try dsimp only at h
    refine blockQ_hit (thenQ_normal (VW.seq (VW.q (VO.m rfl rfl (VO.t (v := .bool (!done_3)) (t_not rfl rfl rfl) rfl rfl (VO.n (VW.k3 1 5 42 rfl ?_)))))))
    obtain ⟨o_6, h, hx_7⟩ := obind h
    refine VW.joinQ (E := List Int × Tok) (I := fun ⟨out_8, tk_9⟩ => out_8 = o_6 ∧ Tok.grow tk_9 1 (out_8.map (cInt .i64)) ∧ True) (env' := fun ⟨out_8, tk_9⟩ => ⟨[(5, .sl tk_9 (out_8.map (cInt .i64)))], []⟩) (H' := fun ⟨out_8, tk_9⟩ => hq [] ([tk_9])) ?_ (fun J_10 => ?_)
    · rintro ⟨out_8, tk_9⟩ ⟨ho_, hg_11, _⟩
      subst ho_
      replace h := hx_7
      clear hx_7
      try dsimp only at h
      show VW _ _ _ _ ⟨[(5, .sl tk_9 (out_8.map (cInt .i64)))], []⟩ (hq [] ([tk_9]))
      refine VW.q (VO.m rfl rfl (VO.a (v := .sl tk_9 (out_8.map (cInt .i64))) rfl rfl (VO.n (VW.k1 4 rfl (VW.ret ?_)))))
      obtain rfl := oi h
      exact ⟨.inr rfl, rfl, _, .sl .fz (out_8.map (cInt .i64)), hq [] [], rfl, VLe.sl _ _, hq_sub .slnil (.cons _ .slnil), rfl, rfl⟩
    · refine VW.cond (b := (!done_3)) rfl (fun hc_12 => ?_) (fun hc_12 => ?_)
      · replace h := iteT h hc_12
        refine VW.region (VO.m rfl rfl (VO.m rfl rfl (VO.w (fun v H' => ∃ t_13, .sl (.cap t_13 1) (([a1]).map (cInt .i64)) = v ∧ H' = hq [] ([.cap t_13 1, tk_4])) (w_buildSlice (l := [[.i a1]]) rfl el80 ⟨rfl, _, _, rfl, rfl, rfl, rfl, rfl⟩ rfl (nle rfl) (fun tk => ⟨tk, by simp only [List.map_cons, List.map_nil, cInt, cBool, cStr, cSl], rfl⟩)) rfl rfl ?_)))
        rintro _ _ ⟨t_13, rfl, rfl⟩
        obtain ⟨_, hr_14, h⟩ := obind h
        refine VO.w (fun v H' => ∃ t_15, .sl (.cap t_15 1) ((out_2 ++ ([a1])).map (cInt .i64)) = v ∧ H' = hq [] ([.cap t_15 1, .cap t_13 1])) (w_append (objs := List.flatten []) (tks := [.cap t_13 1, tk_4]) (i := 1) rfl el80 rfl rfl hg_5 rfl (elemsOK_map (cInt_ok .i64) _) (by have := room_some hr_14; simpa using this) (nle rfl) (fun t => ⟨t, by simp only [List.map_append, List.map_nil, List.nil_append], rfl⟩)) rfl rfl ?_
        rintro _ _ ⟨t_15, rfl, rfl⟩
        refine VO.a (v := .sl (.cap t_15 1) ((out_2 ++ ([a1])).map (cInt .i64))) rfl rfl (VO.subK (.c 5 rfl .n) rfl (VO.hsub (A := hq [] ([.cap t_15 1])) (hq_sub .slnil (.cons_cons _ (.cons _ .slnil))) (VO.nil ?_)))
        exact thenQ_normal (J_10 ⟨out_2 ++ ([a1]), (.cap t_15 1)⟩ ⟨Option.some.inj h, (.inr ⟨_, rfl⟩), trivial⟩)
      · replace h := iteF h hc_12
        refine VW.k1 5 rfl (VW.skip ?_)
        exact thenQ_normal (J_10 ⟨out_2, tk_4⟩ ⟨Option.some.inj h, hg_5, trivial⟩)

theorem ref03_places_ok (a0 : Node) (a1 : List Int) (r : List Int) (h : PL.ref03_places a0 a1 = some r) :
    VCalls Tryd.prog 46 [.agg (Node.l a0), .sl .fz (a1.map (cInt .i64))] (hq [] []) (fun v H => .sl .fz (r.map (cInt .i64)) = v ∧ H = hq [] []) := by
  revert h
  refine (PL.ref03_places.l0.mutual_partial_correctness (motive_1 := fun a0 l_0 i_1 o => ∀ (Q : Exit → Env → HH → Prop) (ob_2 : Nat) (hx0 : ∀ (l_3 : List Int), l_3 = o → Q (.exit 0) ⟨[(1, .sl .fz (l_3.map (cInt .i64)))], []⟩ (hq [] [])), VW Tryd.prog 33 (codeAt [1, 1, 0, 1, 0, 0] (bodyOf Tryd.f46)) (thenQ (VL Tryd.prog 33 (codeAt [1, 1, 0, 1, 0, 0] (bodyOf Tryd.f46)) Q) Q) ⟨[(2, .ptr ob_2 0), (1, .sl .fz (l_0.map (cInt .i64))), (5, .i i_1)], []⟩ (hq ([[(ob_2, .cells (Node.l a0))]]) [])) (motive_2 := fun a0 a1 r => VCalls Tryd.prog 46 [.agg (Node.l a0), .sl .fz (a1.map (cInt .i64))] (hq [] []) (fun v H => .sl .fz (r.map (cInt .i64)) = v ∧ H = hq [] [])) ?_ ?_).2 a0 a1 r
  · intro _ _ ih_ref03_places_l0 ih_ref03_places a0 l_0 i_1 o h Q ob_2 hx0
    refine VW.seq (VW.q (VO.m rfl rfl (VO.t (v := .ptr ob_2 3) (t_fieldAddr_ptr rfl fi24_3 rfl rfl) rfl rfl (VO.r (v := .sl .fz (a0.Kids.map Node.c)) (r_load_q (i := 0) rfl sz22 rfl rfl rfl) rfl rfl (VO.t (v := .i (a0.Kids.length : Int)) (t_len rfl ⟨_, Tryd.underlying22⟩ rfl (by rw [List.length_map])) rfl rfl (VO.t (v := .bool (decide (i_1 < (a0.Kids.length : Int)))) (t_cmp rfl rfl rfl rfl rfl) rfl rfl (VO.n (VW.k4 2 1 5 22 rfl ?_))))))))
    refine VW.cond (b := (decide (i_1 < (a0.Kids.length : Int)))) rfl (fun hc_4 => ?_) (fun hc_4 => ?_)
    · replace h := iteT h hc_4
      refine VW.skip (thenQ_normal (VW.k3 2 1 5 rfl (VW.seq (VW.block (VW.region (VO.t (v := .ptr ob_2 3) (t_fieldAddr_ptr rfl fi24_3 rfl rfl) rfl rfl (VO.r (v := .sl .fz (a0.Kids.map Node.c)) (r_load_q (i := 0) rfl sz22 rfl rfl rfl) rfl rfl (VO.m rfl rfl ?_))))))))
      obtain ⟨c_5, hc_5, h⟩ := obind h
      refine VO.t (v := .vptr (Node.l c_5)) (t_indexAddr rfl sl22 rfl rfl (getI_some hc_5).1 (map_get (getI_some hc_5).2 (Node.c_eq c_5)) rfl) rfl rfl (VO.r (v := .agg (Node.l c_5)) (r_load_v rfl sz24 rfl rfl) rfl rfl (VO.m rfl rfl ?_))
      obtain ⟨rv_6, hx_7, h⟩ := obind h
      refine VO.k (w_keep rfl fn46 rfl ⟨_, _, rfl, rfl, _, _, rfl, rfl, rfl⟩ (ih_ref03_places _ _ _ hx_7)) rfl rfl (VO.a (v := .sl .fz (rv_6.map (cInt .i64))) rfl rfl (VO.nil (blockQ_normal (thenQ_normal (VW.k3 2 5 1 rfl (VW.region (VO.m rfl rfl (VO.t (v := .i (w64 (i_1 + 1))) (t_add rfl rfl (fun _ _ => rfl) rfl) rfl rfl (VO.a (v := .i (w64 (i_1 + 1))) rfl rfl ?_)))))))))
      refine VO.nil (thenQ_normal (VL.round ?_))
      refine VW.k3 2 1 5 rfl ?_
      exact ih_ref03_places_l0 _ _ _ _ h _ ob_2 hx0
    · replace h := iteF h hc_4
      refine VW.k1 1 rfl (VW.hsub (A := hq [] []) (hq_sub (.cons _ .slnil) .slnil) (VW.exit (thenQ_exit (thenQ_exit ?_))))
      obtain rfl := oi h
      exact hx0 _ rfl
  · intro _ ih_ref03_places_l0 a0 a1 r h 
    refine VCalls.of_body 33 [4] Tryd.func46 rfl rfl rfl (nle rfl) (VW.k2 0 1 rfl (VW.q (VO.w (fun v H' => ∃ ob_2, .ptr ob_2 0 = v ∧ H' = hq ([[(ob_2, .cells (Node.l a0))]]) []) (w_box_q rfl rfl rfl (fun ob => ⟨ob, rfl, rfl⟩)) rfl rfl ?_)))
    rintro _ _ ⟨ob_2, rfl, rfl⟩
    refine VO.a (v := .sl .nl []) rfl (fun _ _ => .inl ⟨rfl, .inl rfl⟩) (VO.n (VW.k2 1 2 rfl (VW.seq (VW.q (VO.t (v := .ptr ob_2 0) (t_fieldAddr_ptr rfl fi24_0 rfl rfl) rfl rfl (VO.r (v := .i a0.Op) (r_load_q (i := 0) rfl sz3 rfl rfl rfl) rfl rfl (VO.t (v := .bool (a0.Op == 0)) (t_cmp rfl rfl rfl (fun _ _ => rfl) rfl) rfl rfl (VO.n (VW.k3 1 2 8 rfl ?_)))))))))
    obtain ⟨o_8, h, hx_9⟩ := obind h
    refine VW.joinQ (E := List Int) (I := fun l_10 => l_10 = o_8 ∧ True) (env' := fun l_10 => ⟨[(2, .ptr ob_2 0), (1, .sl .fz (l_10.map (cInt .i64)))], []⟩) (H' := fun l_10 => hq ([[(ob_2, .cells (Node.l a0))]]) []) ?_ (fun J_11 => ?_)
    · rintro l_10 ⟨ho_, _⟩
      subst ho_
      replace h := hx_9
      clear hx_9
      try dsimp only at h
      show VW _ _ _ _ ⟨[(2, .ptr ob_2 0), (1, .sl .fz (l_10.map (cInt .i64)))], []⟩ (hq ([[(ob_2, .cells (Node.l a0))]]) [])
      refine VW.seq (VW.q (VO.a (v := .i 0) rfl (fun _ _ => rfl) (VO.n (VW.block (VW.k3 2 1 5 rfl ?_)))))
      obtain ⟨o_12, hx_13, h⟩ := obind h
      refine VW.loopL (ih_ref03_places_l0 _ _ _ _ hx_13 _ ob_2 ?_)
      · intro l_3 ho_
        subst ho_
        try dsimp only at h
        refine blockQ_hit (thenQ_normal (VW.q (VO.m rfl rfl (VO.a (v := .sl .fz (l_3.map (cInt .i64))) rfl rfl (VO.n (VW.ret ?_))))))
        cases oi h
        exact ret0 rfl rfl ⟨rfl, rfl⟩
    · refine VW.cond (b := (a0.Op == 0)) rfl (fun hc_14 => ?_) (fun hc_14 => ?_)
      · replace h := iteT h hc_14
        refine VW.q (VO.m rfl rfl (VO.t (v := .ptr ob_2 1) (t_fieldAddr_ptr rfl fi24_1 rfl rfl) rfl rfl (VO.r (v := .i a0.Lo) (r_load_q (i := 0) rfl sz3 rfl rfl rfl) rfl rfl ?_)))
        obtain ⟨rv_15, hx_16, h⟩ := obind h
        refine VO.k (w_keep rfl fn45 rfl ⟨_, _, rfl, rfl, _, _, rfl, rfl, rfl⟩ (ref03_put_ok _ _ _ hx_16)) rfl rfl (VO.a (v := .sl .fz (rv_15.map (cInt .i64))) rfl rfl (VO.n (VW.k2 2 1 rfl (VW.region (VO.m rfl rfl (VO.t (v := .ptr ob_2 2) (t_fieldAddr_ptr rfl fi24_2 rfl rfl) rfl rfl (VO.r (v := .i a0.Hi) (r_load_q (i := 0) rfl sz3 rfl rfl rfl) rfl rfl (VO.t (v := .i (w64 (a0.Hi + 1))) (t_add rfl rfl (fun _ _ => rfl) rfl) rfl rfl ?_))))))))
        obtain ⟨rv_17, hx_18, h⟩ := obind h
        refine VO.k (w_keep rfl fn45 rfl ⟨_, _, rfl, rfl, _, _, rfl, rfl, rfl⟩ (ref03_put_ok _ _ _ hx_18)) rfl rfl (VO.a (v := .sl .fz (rv_17.map (cInt .i64))) rfl rfl (VO.subK (.c 2 rfl (.c 1 rfl .n)) rfl (VO.nil ?_)))
        exact thenQ_normal (J_11 rv_17 ⟨Option.some.inj h, trivial⟩)
      · replace h := iteF h hc_14
        refine VW.k2 2 1 rfl (VW.skip ?_)
        exact thenQ_normal (J_11 a1 ⟨Option.some.inj h, trivial⟩)

theorem ref03_Holds_ok (a0 : Node) (a1 : Int) (r : Bool) (h : PL.ref03_Holds a0 a1 = some r) :
    VCalls Tryd.prog 47 [.agg (Node.l a0), .i a1] (hq [] []) (fun v H => .bool r = v ∧ H = hq [] []) := by
  revert h
  refine (PL.ref03_Holds.l0.mutual_partial_correctness a1 (motive_1 := fun a0 i_0 o => ∀ (Q : Exit → Env → HH → Prop) (ob_1 : Nat) (hx0 : Sum.inl () = o → Q (.exit 1) ⟨[], []⟩ (hq [] [])) (hx1 : Sum.inr () = o → Q .ret ⟨[(4, .bool true)], []⟩ (hq [] [])), VW Tryd.prog 85 (codeAt [1, 0, 1, 0, 1, 1, 1, 0, 0, 1, 0, 0] (bodyOf Tryd.f47)) (thenQ (VL Tryd.prog 85 (codeAt [1, 0, 1, 0, 1, 1, 1, 0, 0, 1, 0, 0] (bodyOf Tryd.f47)) Q) Q) ⟨[(1, .i a1), (2, .ptr ob_1 0), (5, .i i_0)], []⟩ (hq ([[(ob_1, .cells (Node.l a0))]]) [])) (motive_2 := fun a0 r => VCalls Tryd.prog 47 [.agg (Node.l a0), .i a1] (hq [] []) (fun v H => .bool r = v ∧ H = hq [] [])) (motive_3 := fun a0 i_2 o => ∀ (Q : Exit → Env → HH → Prop) (ob_1 : Nat) (hx0 : Sum.inl () = o → Q (.exit 3) ⟨[], []⟩ (hq [] [])) (hx1 : Sum.inr () = o → Q .ret ⟨[(4, .bool false)], []⟩ (hq [] [])), VW Tryd.prog 85 (codeAt [1, 0, 1, 0, 1, 1, 1, 1, 1, 0, 0, 1, 0, 0] (bodyOf Tryd.f47)) (thenQ (VL Tryd.prog 85 (codeAt [1, 0, 1, 0, 1, 1, 1, 1, 1, 0, 0, 1, 0, 0] (bodyOf Tryd.f47)) Q) Q) ⟨[(1, .i a1), (2, .ptr ob_1 0), (6, .i i_2)], []⟩ (hq ([[(ob_1, .cells (Node.l a0))]]) [])) ?_ ?_ ?_).2.1 a0 r
  · intro _ _ ih_ref03_Holds_l0 ih_ref03_Holds a0 i_0 o h Q ob_1 hx0 hx1
    refine VW.seq (VW.q (VO.m rfl rfl (VO.t (v := .ptr ob_1 3) (t_fieldAddr_ptr rfl fi24_3 rfl rfl) rfl rfl (VO.r (v := .sl .fz (a0.Kids.map Node.c)) (r_load_q (i := 0) rfl sz22 rfl rfl rfl) rfl rfl (VO.t (v := .i (a0.Kids.length : Int)) (t_len rfl ⟨_, Tryd.underlying22⟩ rfl (by rw [List.length_map])) rfl rfl (VO.t (v := .bool (decide (i_0 < (a0.Kids.length : Int)))) (t_cmp rfl rfl rfl rfl rfl) rfl rfl (VO.n (VW.k4 1 2 5 27 rfl ?_))))))))
    refine VW.cond (b := (decide (i_0 < (a0.Kids.length : Int)))) rfl (fun hc_3 => ?_) (fun hc_3 => ?_)
    · replace h := iteT h hc_3
      refine VW.skip (thenQ_normal (VW.k3 1 2 5 rfl (VW.seq (VW.block (VW.q (VO.t (v := .ptr ob_1 3) (t_fieldAddr_ptr rfl fi24_3 rfl rfl) rfl rfl (VO.r (v := .sl .fz (a0.Kids.map Node.c)) (r_load_q (i := 0) rfl sz22 rfl rfl rfl) rfl rfl (VO.m rfl rfl ?_))))))))
      obtain ⟨c_4, hc_4, h⟩ := obind h
      refine VO.t (v := .vptr (Node.l c_4)) (t_indexAddr rfl sl22 rfl rfl (getI_some hc_4).1 (map_get (getI_some hc_4).2 (Node.c_eq c_4)) rfl) rfl rfl (VO.r (v := .agg (Node.l c_4)) (r_load_v rfl sz24 rfl rfl) rfl rfl (VO.m rfl rfl ?_))
      obtain ⟨rv_5, hx_6, h⟩ := obind h
      refine VO.k (w_keep rfl fn47 rfl ⟨_, _, rfl, rfl, _, _, rfl, rfl, rfl⟩ (ih_ref03_Holds _ _ hx_6)) rfl rfl (VO.n (VW.k4 1 2 5 36 rfl ?_))
      refine VW.cond (b := rv_5) rfl (fun hc_7 => ?_) (fun hc_7 => ?_)
      · replace h := iteT h hc_7
        refine VW.q (VO.a (v := .bool true) rfl (fun _ _ => rfl) (VO.n (VW.k1 4 rfl (VW.hsub (A := hq [] []) (hq_sub (.cons _ .slnil) .slnil) (VW.k1 4 rfl (VW.ret (blockQ_ret (thenQ_ret (thenQ_ret ?_)))))))))
        obtain rfl := oi h
        exact hx1  rfl
      · replace h := iteF h hc_7
        refine VW.skip (blockQ_normal (thenQ_normal (VW.k3 1 2 5 rfl (VW.region (VO.m rfl rfl (VO.t (v := .i (w64 (i_0 + 1))) (t_add rfl rfl (fun _ _ => rfl) rfl) rfl rfl (VO.a (v := .i (w64 (i_0 + 1))) rfl rfl (VO.nil (thenQ_normal (VL.round ?_))))))))))
        refine VW.k3 1 2 5 rfl ?_
        exact ih_ref03_Holds_l0 _ _ _ h _ ob_1 hx0 hx1
    · replace h := iteF h hc_3
      refine VW.subN (t' := []) trivial rfl (VW.hsub (A := hq [] []) (hq_sub (.cons _ .slnil) .slnil) (VW.exit (thenQ_exit (thenQ_exit ?_))))
      obtain rfl := oi h
      exact hx0  rfl
  · intro _ _ _ ih_ref03_Holds_l0 ih_ref03_Holds ih_ref03_Holds_l1 a0 r h 
    refine VCalls.of_body 85 [4] Tryd.func47 rfl rfl rfl (nle rfl) (VW.k2 0 1 rfl (VW.q (VO.w (fun v H' => ∃ ob_1, .ptr ob_1 0 = v ∧ H' = hq ([[(ob_1, .cells (Node.l a0))]]) []) (w_box_q rfl rfl rfl (fun ob => ⟨ob, rfl, rfl⟩)) rfl rfl ?_)))
    rintro _ _ ⟨ob_1, rfl, rfl⟩
    refine VO.a (v := .bool false) rfl (fun _ _ => rfl) (VO.n (VW.k2 1 2 rfl (VW.seq (VW.q (VO.t (v := .ptr ob_1 0) (t_fieldAddr_ptr rfl fi24_0 rfl rfl) rfl rfl (VO.r (v := .i a0.Op) (r_load_q (i := 0) rfl sz3 rfl rfl rfl) rfl rfl (VO.n (VW.k3 1 2 8 rfl (VW.block ?_)))))))))
    refine VW.q (VO.t (v := .bool (a0.Op == 0)) (t_cmp rfl rfl rfl (fun _ _ => rfl) rfl) rfl rfl (VO.a (v := .bool (a0.Op == 0)) rfl rfl (VO.n (VW.k4 1 2 8 9 rfl ?_))))
    refine VW.cond (b := (a0.Op == 0)) rfl (fun hc_8 => ?_) (fun hc_8 => ?_)
    · replace h := iteT h hc_8
      refine VW.q (VO.m rfl rfl (VO.t (v := .ptr ob_1 1) (t_fieldAddr_ptr rfl fi24_1 rfl rfl) rfl rfl (VO.r (v := .i a0.Lo) (r_load_q (i := 0) rfl sz3 rfl rfl rfl) rfl rfl (VO.t (v := .bool (decide (a1 ≥ a0.Lo))) (t_cmp rfl rfl rfl rfl rfl) rfl rfl (VO.m rfl rfl ?_)))))
      refine VO.caseB (d := 15) (b := (decide (a1 ≥ a0.Lo))) rfl (fun hc_9 => ?_) (fun hc_9 => ?_)
      · replace h := iteT h hc_9
        refine VO.gt (v := .i a1) (t_move rfl rfl) rfl rfl rfl rfl (VO.gt (v := .ptr ob_1 2) (t_fieldAddr_ptr rfl fi24_2 rfl rfl) rfl rfl rfl rfl (VO.gr (v := .i a0.Hi) (r_load_q (i := 0) rfl sz3 rfl rfl rfl) rfl rfl rfl rfl (VO.gt (v := .bool (decide (a1 ≤ a0.Hi))) (t_cmp rfl rfl rfl rfl rfl) rfl rfl rfl rfl (VO.t (v := .bool (decide (a1 ≤ a0.Hi))) (t_pick (b := true) rfl rfl (fun _ => rfl) (fun h => by cases h)) rfl rfl (VO.a (v := .bool (decide (a1 ≤ a0.Hi))) rfl rfl (VO.n (VW.ret (blockQ_ret (thenQ_ret ?_)))))))))
        cases oi h
        exact ret0 rfl rfl ⟨rfl, rfl⟩
      · replace h := iteF h hc_9
        refine VO.s rfl (VO.s rfl (VO.s rfl (VO.s rfl (VO.t (v := .bool false) (t_pick (b := false) rfl rfl (fun h => by cases h) (fun _ => (fun _ _ => rfl))) rfl rfl (VO.a (v := .bool false) rfl rfl (VO.n (VW.ret (blockQ_ret (thenQ_ret ?_)))))))))
        cases oi h
        exact ret0 rfl rfl ⟨rfl, rfl⟩
    · replace h := iteF h hc_8
      refine VW.q (VO.t (v := .bool (a0.Op == 1)) (t_cmp rfl rfl rfl (fun _ _ => rfl) rfl) rfl rfl (VO.a (v := .bool (a0.Op == 1)) rfl rfl (VO.n (VW.k4 1 2 8 21 rfl ?_))))
      refine VW.cond (b := (a0.Op == 1)) rfl (fun hc_10 => ?_) (fun hc_10 => ?_)
      · replace h := iteT h hc_10
        refine VW.seq (VW.q (VO.a (v := .i 0) rfl (fun _ _ => rfl) (VO.n (VW.k3 1 2 5 rfl (VW.block (VW.k3 1 2 5 rfl ?_))))))
        obtain ⟨o_11, hx_12, h⟩ := obind h
        refine VW.loopL (ih_ref03_Holds_l0 _ _ _ hx_12 _ ob_1 ?_ ?_)
        · intro ho_
          subst ho_
          try dsimp only at h
          refine blockQ_hit (thenQ_normal (VW.q (VO.a (v := .bool false) rfl (fun _ _ => rfl) (VO.n (VW.ret (blockQ_ret (thenQ_ret ?_)))))))
          cases oi h
          exact ret0 rfl rfl ⟨rfl, rfl⟩
        · intro ho_
          subst ho_
          try dsimp only at h
          refine blockQ_ret (thenQ_ret (blockQ_ret (thenQ_ret ?_)))
          obtain rfl := oi h
          exact ⟨.inr rfl, rfl, _, .bool true, hq [] [], rfl, VLe.refl _, hq_sub .slnil .slnil, rfl, rfl⟩
      · replace h := iteF h hc_10
        refine VW.q (VO.t (v := .bool (a0.Op == 2)) (t_cmp rfl rfl rfl (fun _ _ => rfl) rfl) rfl rfl (VO.a (v := .bool (a0.Op == 2)) rfl rfl (VO.n (VW.k4 1 2 8 37 rfl ?_))))
        refine VW.cond (b := (a0.Op == 2)) rfl (fun hc_13 => ?_) (fun hc_13 => ?_)
        · replace h := iteT h hc_13
          refine VW.seq (VW.q (VO.a (v := .i 0) rfl (fun _ _ => rfl) (VO.n (VW.k3 1 2 6 rfl (VW.block (VW.k3 1 2 6 rfl ?_))))))
          obtain ⟨o_14, hx_15, h⟩ := obind h
          refine VW.loopL (ih_ref03_Holds_l1 _ _ _ hx_15 _ ob_1 ?_ ?_)
          · intro ho_
            subst ho_
            try dsimp only at h
            refine blockQ_hit (thenQ_normal (VW.q (VO.a (v := .bool true) rfl (fun _ _ => rfl) (VO.n (VW.ret (blockQ_ret (thenQ_ret ?_)))))))
            cases oi h
            exact ret0 rfl rfl ⟨rfl, rfl⟩
          · intro ho_
            subst ho_
            try dsimp only at h
            refine blockQ_ret (thenQ_ret (blockQ_ret (thenQ_ret ?_)))
            obtain rfl := oi h
            exact ⟨.inr rfl, rfl, _, .bool false, hq [] [], rfl, VLe.refl _, hq_sub .slnil .slnil, rfl, rfl⟩
        · replace h := iteF h hc_13
          refine VW.q (VO.t (v := .bool (a0.Op == 3)) (t_cmp rfl rfl rfl (fun _ _ => rfl) rfl) rfl rfl (VO.a (v := .bool (a0.Op == 3)) rfl rfl (VO.n (VW.k4 1 2 8 54 rfl ?_))))
          refine VW.cond (b := (a0.Op == 3)) rfl (fun hc_16 => ?_) (fun hc_16 => ?_)
          · replace h := iteT h hc_16
            refine VW.q (VO.t (v := .ptr ob_1 3) (t_fieldAddr_ptr rfl fi24_3 rfl rfl) rfl rfl (VO.r (v := .sl .fz (a0.Kids.map Node.c)) (r_load_q (i := 0) rfl sz22 rfl rfl rfl) rfl rfl ?_))
            obtain ⟨c_17, hc_17, h⟩ := obind h
            refine VO.t (v := .vptr (Node.l c_17)) (t_indexAddr rfl sl22 rfl (fun _ _ => rfl) (getI_some hc_17).1 (map_get (getI_some hc_17).2 (Node.c_eq c_17)) rfl) rfl rfl (VO.r (v := .agg (Node.l c_17)) (r_load_v rfl sz24 rfl rfl) rfl rfl (VO.m rfl rfl ?_))
            obtain ⟨rv_18, hx_19, h⟩ := obind h
            refine VO.k (w_keep rfl fn47 rfl ⟨_, _, rfl, rfl, _, _, rfl, rfl, rfl⟩ (ih_ref03_Holds _ _ hx_19)) rfl rfl (VO.m rfl rfl ?_)
            refine VO.caseB (d := 62) (b := rv_18) rfl (fun hc_20 => ?_) (fun hc_20 => ?_)
            · replace h := iteT h hc_20
              refine VO.gt (v := .ptr ob_1 3) (t_fieldAddr_ptr rfl fi24_3 rfl rfl) rfl rfl rfl rfl (VO.gr (v := .sl .fz (a0.Kids.map Node.c)) (r_load_q (i := 0) rfl sz22 rfl rfl rfl) rfl rfl rfl rfl ?_)
              obtain ⟨c_21, hc_21, h⟩ := obind h
              refine VO.gt (v := .vptr (Node.l c_21)) (t_indexAddr rfl sl22 rfl (fun _ _ => rfl) (getI_some hc_21).1 (map_get (getI_some hc_21).2 (Node.c_eq c_21)) rfl) rfl rfl rfl rfl (VO.gr (v := .agg (Node.l c_21)) (r_load_v rfl sz24 rfl rfl) rfl rfl rfl rfl (VO.gt (v := .i a1) (t_move rfl rfl) rfl rfl rfl rfl ?_))
              obtain ⟨rv_22, hx_23, h⟩ := obind h
              refine VO.gk (w_keep rfl fn47 rfl ⟨_, _, rfl, rfl, _, _, rfl, rfl, rfl⟩ (ih_ref03_Holds _ _ hx_23)) rfl rfl rfl rfl (VO.gt (v := .bool (!rv_22)) (t_not rfl rfl rfl) rfl rfl rfl rfl (VO.t (v := .bool (!rv_22)) (t_pick (b := true) rfl rfl (fun _ => rfl) (fun h => by cases h)) rfl rfl (VO.a (v := .bool (!rv_22)) rfl rfl (VO.n (VW.ret (blockQ_ret (thenQ_ret ?_)))))))
              cases oi h
              exact ret0 rfl rfl ⟨rfl, rfl⟩
            · replace h := iteF h hc_20
              refine VO.s rfl (VO.s rfl (VO.s rfl (VO.s rfl (VO.s rfl (VO.s rfl (VO.s rfl (VO.t (v := .bool false) (t_pick (b := false) rfl rfl (fun h => by cases h) (fun _ => (fun _ _ => rfl))) rfl rfl (VO.a (v := .bool false) rfl rfl (VO.n ?_)))))))))
              refine VW.ret (blockQ_ret (thenQ_ret ?_))
              cases oi h
              exact ret0 rfl rfl ⟨rfl, rfl⟩
          · replace h := iteF h hc_16
            refine VW.q (VO.t (v := .bool (a0.Op == 5)) (t_cmp rfl rfl rfl (fun _ _ => rfl) rfl) rfl rfl (VO.a (v := .bool (a0.Op == 5)) rfl rfl (VO.n (VW.k3 1 2 71 rfl ?_))))
            refine VW.cond (b := (a0.Op == 5)) rfl (fun hc_24 => ?_) (fun hc_24 => ?_)
            · replace h := iteT h hc_24
              refine VW.q (VO.t (v := .ptr ob_1 3) (t_fieldAddr_ptr rfl fi24_3 rfl rfl) rfl rfl (VO.r (v := .sl .fz (a0.Kids.map Node.c)) (r_load_q (i := 0) rfl sz22 rfl rfl rfl) rfl rfl ?_))
              obtain ⟨c_25, hc_25, h⟩ := obind h
              refine VO.t (v := .vptr (Node.l c_25)) (t_indexAddr rfl sl22 rfl (fun _ _ => rfl) (getI_some hc_25).1 (map_get (getI_some hc_25).2 (Node.c_eq c_25)) rfl) rfl rfl (VO.r (v := .agg (Node.l c_25)) (r_load_v rfl sz24 rfl rfl) rfl rfl (VO.m rfl rfl ?_))
              obtain ⟨rv_26, hx_27, h⟩ := obind h
              refine VO.k (w_keep rfl fn47 rfl ⟨_, _, rfl, rfl, _, _, rfl, rfl, rfl⟩ (ih_ref03_Holds _ _ hx_27)) rfl rfl (VO.a (v := .bool rv_26) rfl rfl (VO.n (VW.ret (blockQ_ret (thenQ_ret ?_)))))
              cases oi h
              exact ret0 rfl rfl ⟨rfl, rfl⟩
            · replace h := iteF h hc_24
              refine VW.skip (blockQ_normal (thenQ_normal (VW.k1 1 rfl (VW.hsub (A := hq [] []) (hq_sub (.cons _ .slnil) .slnil) (VW.q (VO.m rfl rfl (VO.t (v := .bool (decide (a1 ≥ (-1000000000000000)))) (t_cmp rfl rfl rfl (fun _ _ => rfl) rfl) rfl rfl (VO.m rfl rfl ?_))))))))
              refine VO.caseB (d := 81) (b := (decide (a1 ≥ (-1000000000000000)))) rfl (fun hc_28 => ?_) (fun hc_28 => ?_)
              · replace h := iteT h hc_28
                refine VO.gt (v := .i a1) (t_move rfl rfl) rfl rfl rfl rfl (VO.gt (v := .bool (decide (a1 ≤ 1000000000000000))) (t_cmp rfl rfl rfl (fun _ _ => rfl) rfl) rfl rfl rfl rfl (VO.t (v := .bool (decide (a1 ≤ 1000000000000000))) (t_pick (b := true) rfl rfl (fun _ => rfl) (fun h => by cases h)) rfl rfl (VO.a (v := .bool (decide (a1 ≤ 1000000000000000))) rfl rfl (VO.n (VW.ret ?_)))))
                cases oi h
                exact ret0 rfl rfl ⟨rfl, rfl⟩
              · replace h := iteF h hc_28
                refine VO.s rfl (VO.s rfl (VO.t (v := .bool false) (t_pick (b := false) rfl rfl (fun h => by cases h) (fun _ => (fun _ _ => rfl))) rfl rfl (VO.a (v := .bool false) rfl rfl (VO.n (VW.ret ?_)))))
                cases oi h
                exact ret0 rfl rfl ⟨rfl, rfl⟩
  · intro _ _ ih_ref03_Holds ih_ref03_Holds_l1 a0 i_2 o h Q ob_1 hx0 hx1
    refine VW.seq (VW.q (VO.m rfl rfl (VO.t (v := .ptr ob_1 3) (t_fieldAddr_ptr rfl fi24_3 rfl rfl) rfl rfl (VO.r (v := .sl .fz (a0.Kids.map Node.c)) (r_load_q (i := 0) rfl sz22 rfl rfl rfl) rfl rfl (VO.t (v := .i (a0.Kids.length : Int)) (t_len rfl ⟨_, Tryd.underlying22⟩ rfl (by rw [List.length_map])) rfl rfl (VO.t (v := .bool (decide (i_2 < (a0.Kids.length : Int)))) (t_cmp rfl rfl rfl rfl rfl) rfl rfl (VO.n (VW.k4 1 2 6 43 rfl ?_))))))))
    refine VW.cond (b := (decide (i_2 < (a0.Kids.length : Int)))) rfl (fun hc_29 => ?_) (fun hc_29 => ?_)
    · replace h := iteT h hc_29
      refine VW.skip (thenQ_normal (VW.k3 1 2 6 rfl (VW.seq (VW.block (VW.q (VO.t (v := .ptr ob_1 3) (t_fieldAddr_ptr rfl fi24_3 rfl rfl) rfl rfl (VO.r (v := .sl .fz (a0.Kids.map Node.c)) (r_load_q (i := 0) rfl sz22 rfl rfl rfl) rfl rfl (VO.m rfl rfl ?_))))))))
      obtain ⟨c_30, hc_30, h⟩ := obind h
      refine VO.t (v := .vptr (Node.l c_30)) (t_indexAddr rfl sl22 rfl rfl (getI_some hc_30).1 (map_get (getI_some hc_30).2 (Node.c_eq c_30)) rfl) rfl rfl (VO.r (v := .agg (Node.l c_30)) (r_load_v rfl sz24 rfl rfl) rfl rfl (VO.m rfl rfl ?_))
      obtain ⟨rv_31, hx_32, h⟩ := obind h
      refine VO.k (w_keep rfl fn47 rfl ⟨_, _, rfl, rfl, _, _, rfl, rfl, rfl⟩ (ih_ref03_Holds _ _ hx_32)) rfl rfl (VO.t (v := .bool (!rv_31)) (t_not rfl rfl rfl) rfl rfl (VO.n (VW.k4 1 2 6 53 rfl ?_)))
      refine VW.cond (b := (!rv_31)) rfl (fun hc_33 => ?_) (fun hc_33 => ?_)
      · replace h := iteT h hc_33
        refine VW.q (VO.a (v := .bool false) rfl (fun _ _ => rfl) (VO.n (VW.k1 4 rfl (VW.hsub (A := hq [] []) (hq_sub (.cons _ .slnil) .slnil) (VW.k1 4 rfl (VW.ret (blockQ_ret (thenQ_ret (thenQ_ret ?_)))))))))
        obtain rfl := oi h
        exact hx1  rfl
      · replace h := iteF h hc_33
        refine VW.skip (blockQ_normal (thenQ_normal (VW.k3 1 2 6 rfl (VW.region (VO.m rfl rfl (VO.t (v := .i (w64 (i_2 + 1))) (t_add rfl rfl (fun _ _ => rfl) rfl) rfl rfl (VO.a (v := .i (w64 (i_2 + 1))) rfl rfl (VO.nil (thenQ_normal (VL.round ?_))))))))))
        refine VW.k3 1 2 6 rfl ?_
        exact ih_ref03_Holds_l1 _ _ _ h _ ob_1 hx0 hx1
    · replace h := iteF h hc_29
      refine VW.subN (t' := []) trivial rfl (VW.hsub (A := hq [] []) (hq_sub (.cons _ .slnil) .slnil) (VW.exit (thenQ_exit (thenQ_exit ?_))))
      obtain rfl := oi h
      exact hx0  rfl

end Go.AV
