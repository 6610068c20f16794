/- The walks: each printed theorem says what a function of the program does. -/
import Derived.Test.YtgclbdndnbgnoaaDoorWk1
namespace Go.AV
open Go.Proofs
set_option maxRecDepth 100000
set_option linter.all false

theorem ref03_set.l0_ok (a0 : Node) (rv_0 : List Int) {Q : Exit → Env → HH → Prop} :
    ∀ (out_1 : List Pr) (i_2 : Int) (o : (List Pr)), PL.ref03_set.l0 a0 rv_0 out_1 i_2 = some o →
    ∀ (ob_3 : Nat) (vbu6070 : VV) (bbu6070 : Seg) (hbu6070 : Buf 2 (out_1.map Pr.c) vbu6070 bbu6070) (hx0 : ∀ (out_4 : List Pr) (vbu6099 : VV) (bbu6099 : Seg), out_4 = o → Buf 2 (out_4.map Pr.c) vbu6099 bbu6099 → Q (.exit 0) ⟨[(4, vbu6099)], []⟩ (hq ([bbu6099]) [])), VW Tryd.prog 69 (codeAt [1, 1, 1, 0, 1, 0, 0] (bodyOf Tryd.f27)) (thenQ (VL Tryd.prog 69 (codeAt [1, 1, 1, 0, 1, 0, 0] (bodyOf Tryd.f27)) Q) Q) ⟨[(1, .ptr ob_3 0), (3, .sl .fz (rv_0.map (cInt .i64))), (4, vbu6070), (5, .i i_2)], []⟩ (hq ([[(ob_3, .cells (Node.l a0))], bbu6070]) []) := by
  refine PL.ref03_set.l0.partial_correctness a0 rv_0 (motive := fun out_1 i_2 o => ∀ (ob_3 : Nat) (vbu6070 : VV) (bbu6070 : Seg) (hbu6070 : Buf 2 (out_1.map Pr.c) vbu6070 bbu6070) (hx0 : ∀ (out_4 : List Pr) (vbu6099 : VV) (bbu6099 : Seg), out_4 = o → Buf 2 (out_4.map Pr.c) vbu6099 bbu6099 → Q (.exit 0) ⟨[(4, vbu6099)], []⟩ (hq ([bbu6099]) [])), VW Tryd.prog 69 (codeAt [1, 1, 1, 0, 1, 0, 0] (bodyOf Tryd.f27)) (thenQ (VL Tryd.prog 69 (codeAt [1, 1, 1, 0, 1, 0, 0] (bodyOf Tryd.f27)) Q) Q) ⟨[(1, .ptr ob_3 0), (3, .sl .fz (rv_0.map (cInt .i64))), (4, vbu6070), (5, .i i_2)], []⟩ (hq ([[(ob_3, .cells (Node.l a0))], bbu6070]) [])) ?_
  intro _ ih out_1 i_2 o h ob_3 vbu6070 bbu6070 hbu6070 hx0
  refine VW.seq (VW.q (VO.m rfl rfl (VO.t (v := .i (w64 (i_2 + 1))) (t_add rfl rfl (fun _ _ => rfl) rfl) rfl rfl (VO.m rfl rfl (VO.t (v := .i (rv_0.length : Int)) (t_len rfl ⟨_, Tryd.underlying80⟩ rfl (by rw [List.length_map])) rfl rfl (VO.t (v := .bool (decide ((w64 (i_2 + 1)) < (rv_0.length : Int)))) (t_cmp rfl rfl rfl rfl rfl) rfl rfl (VO.n (VW.k5 1 3 4 5 15 rfl ?_))))))))
  refine VW.cond (b := (decide ((w64 (i_2 + 1)) < (rv_0.length : Int)))) rfl (fun hc_5 => ?_) (fun hc_5 => ?_)
  · replace h := iteT h hc_5
    refine VW.skip (thenQ_normal (VW.k4 1 3 4 5 rfl (VW.seq (VW.block (VW.seq (VW.seq (VW.draw 7 mix rfl (VA.phase (g := 2) [0, 1, 2, 3, 4] 5 (VP.take (i := 0) (v := .agg (Node.l a0)) rfl (r_load_q (i := 0) rfl sz24 rfl rfl rfl) (.inl rfl) (by kernel_rfl) ?_)))))))))
    refine VP.take (i := 1) rfl (TOp.r (t_move rfl rfl)) (.inl rfl) (by kernel_rfl) (VP.take (i := 2) rfl (TOp.r (t_move rfl rfl)) (.inl rfl) (by kernel_rfl) ?_)
    obtain ⟨c_6, hc_6, h⟩ := obind h
    refine VP.take (i := 3) (v := .vptr [.i c_6]) rfl (TOp.r (t_indexAddr rfl sl80 rfl rfl (getI_some hc_6).1 (map_get (getI_some hc_6).2 rfl) rfl)) (.inl rfl) (by kernel_rfl) (VP.take (i := 4) (v := .i c_6) rfl (r_load_v rfl sz3 rfl rfl) (.inl rfl) (by kernel_rfl) (VP.done (by kernel_rfl) ?_))
    obtain ⟨rv_7, hx_8, h⟩ := obind h
    refine VA.k (i := 5) rfl (w_keep rfl fn47 rfl ⟨_, _, rfl, rfl, _, _, rfl, rfl, rfl⟩ (ref03_Holds_ok _ _ _ hx_8)) (.inl rfl) (by kernel_rfl) rfl (VA.t (i := 6) (v := .bool (!rv_7)) rfl (t_not rfl rfl rfl) (.inl rfl) (by kernel_rfl) (VA.done (by kernel_rfl) (thenQ_normal (VW.k5 1 3 4 5 24 rfl ?_))))
    refine VW.cond (b := (!rv_7)) rfl (fun hc_9 => ?_) (fun hc_9 => ?_)
    · replace h := iteT h hc_9
      refine VW.exit (thenQ_exit (blockQ_hit (thenQ_normal (VW.k4 1 3 4 5 rfl (VW.region (VO.m rfl rfl (VO.t (v := .i (w64 (i_2 + 1))) (t_add rfl rfl (fun _ _ => rfl) rfl) rfl rfl (VO.a (v := .i (w64 (i_2 + 1))) rfl rfl (VO.nil ?_)))))))))
      refine thenQ_normal (VL.round ?_)
      refine VW.k4 1 3 4 5 rfl ?_
      exact ih _ _ _ h ob_3 vbu6070 bbu6070 hbu6070 hx0
    · replace h := iteF h hc_9
      refine VW.skip (thenQ_normal (VW.k4 1 3 4 5 rfl (VW.q (VO.m rfl rfl (VO.t (v := .i (out_1.length : Int)) (t_len_buf rfl ⟨_, Tryd.underlying31⟩ rfl hbu6070 (by rw [List.length_map])) rfl rfl (VO.a (v := .i (out_1.length : Int)) rfl rfl (VO.n (VW.k5 1 3 4 5 6 rfl (VW.seq ?_)))))))))
      obtain ⟨o_10, h, hx_11⟩ := obind h
      refine VW.joinQ (E := Bool × VV × Seg) (I := fun ⟨x_12, vbu6108, bbu6108⟩ => x_12 = o_10 ∧ Buf 2 (out_1.map Pr.c) vbu6108 bbu6108 ∧ True) (env' := fun ⟨x_12, vbu6108, bbu6108⟩ => ⟨[(1, .ptr ob_3 0), (3, .sl .fz (rv_0.map (cInt .i64))), (4, vbu6108), (5, .i i_2), (6, .i (out_1.length : Int)), (42, .bool x_12)], []⟩) (H' := fun ⟨x_12, vbu6108, bbu6108⟩ => hq ([[(ob_3, .cells (Node.l a0))], bbu6108]) []) ?_ (fun J_13 => ?_)
      · rintro ⟨x_12, vbu6108, bbu6108⟩ ⟨ho_, hbu6108, _⟩
        subst ho_
        replace h := hx_11
        clear hx_11
        try dsimp only at h
        show VW _ _ _ _ ⟨[(1, .ptr ob_3 0), (3, .sl .fz (rv_0.map (cInt .i64))), (4, vbu6108), (5, .i i_2), (6, .i (out_1.length : Int)), (42, .bool x_12)], []⟩ (hq ([[(ob_3, .cells (Node.l a0))], bbu6108]) [])
        refine VW.cond (b := x_12) rfl (fun hc_14 => ?_) (fun hc_14 => ?_)
        · replace h := iteT h hc_14
          refine VW.draw 12 mix rfl (VA.phase (g := 1) [0, 1, 2, 3, 4, 5, 6, 7, 8, 9, 10] 11 (VP.take (i := 0) rfl (TOp.r (t_move rfl rfl)) (.inl rfl) (by kernel_rfl) (VP.take (i := 1) rfl (TOp.r (t_move rfl rfl)) (.inl rfl) (by kernel_rfl) (VP.take (i := 2) (v := .i (w64 ((out_1.length : Int) - 1))) rfl (TOp.r (t_sub rfl rfl (fun _ _ => rfl) rfl)) (.inl rfl) (by kernel_rfl) (VP.take (i := 3) rfl (TOp.r (t_move rfl rfl)) (.inl rfl) (by kernel_rfl) (VP.take (i := 4) rfl (TOp.r (t_move rfl rfl)) (.inl rfl) (by kernel_rfl) (VP.take (i := 5) (v := .i (w64 (i_2 + 1))) rfl (TOp.r (t_add rfl rfl (fun _ _ => rfl) rfl)) (.inl rfl) (by kernel_rfl) ?_)))))))
          obtain ⟨c_15, hc_15, h⟩ := obind h
          refine VP.take (i := 6) (v := .vptr [.i c_15]) rfl (TOp.r (t_indexAddr rfl sl80 rfl rfl (getI_some hc_15).1 (map_get (getI_some hc_15).2 rfl) rfl)) (.inl rfl) (by kernel_rfl) (VP.take (i := 7) (v := .i c_15) rfl (r_load_v rfl sz3 rfl rfl) (.inl rfl) (by kernel_rfl) (VP.take (i := 8) (v := .i (w64 (c_15 - 1))) rfl (TOp.r (t_sub rfl rfl (fun _ _ => rfl) rfl)) (.inl rfl) (by kernel_rfl) ?_))
          obtain ⟨c_16, hc_16, h⟩ := obind h
          obtain ⟨ob_17, cap_17, len_17, sl_17, rfl, rfl, hE_17, hl_17, hc_17, hs_17⟩ := buf_at hbu6108 hc_16
          refine VP.take (i := 9) (v := .ptr ob_17 ((w64 ((out_1.length : Int) - 1)).toNat * 2 + 0)) rfl (TOp.r (t_index_own rfl sl31 rfl rfl (getI_some hc_16).1 (by rw [hl_17]; exact getI_lt hc_16) rfl)) (.inl rfl) (by kernel_rfl) (VP.take (i := 10) (v := .ptr ob_17 ((w64 ((out_1.length : Int) - 1)).toNat * 2 + 1)) rfl (TOp.r (t_indexAddr_parr rfl ar59 rfl (fun _ _ => rfl) (by decide) (by decide) rfl)) (.inl rfl) (by kernel_rfl) (VP.done (by kernel_rfl) (VA.w (i := 11) (fun v H' => .any = v ∧ H' = hq ([[(ob_3, .cells (Node.l a0))], [(ob_17, .cells (((out_1.set (w64 ((out_1.length : Int) - 1)).toNat (Pr.mk c_16.x0 (w64 (c_15 - 1)))).map Pr.c).flatten ++ sl_17))]]) []) rfl (w_store_buf (n := 2) (f := 1) (j := 1) rfl sz3 rfl rfl rfl hE_17 (map_get (getI_some hc_16).2 (Pr.c_eq c_16)) rfl rfl (nle rfl) rfl (map_set (Pr.c_eq (Pr.mk c_16.x0 (w64 (c_15 - 1))))) ⟨rfl, rfl⟩) (.inl rfl) (by kernel_rfl) rfl ?_)))
          rintro _ _ ⟨rfl, rfl⟩
          have hl_18 : len_17 = (out_1.set (w64 ((out_1.length : Int) - 1)).toNat (Pr.mk c_16.x0 (w64 (c_15 - 1)))).length := by simp [hl_17]
          refine VA.done (by kernel_rfl) (blockQ_normal (thenQ_normal (VW.k4 1 3 4 5 rfl (VW.region (VO.m rfl rfl (VO.t (v := .i (w64 (i_2 + 1))) (t_add rfl rfl (fun _ _ => rfl) rfl) rfl rfl (VO.a (v := .i (w64 (i_2 + 1))) rfl rfl (VO.nil (thenQ_normal (VL.round ?_))))))))))
          refine VW.k4 1 3 4 5 rfl ?_
          exact ih _ _ _ h ob_3 (.own ob_17 cap_17 len_17) [(ob_17, .cells (((out_1.set (w64 ((out_1.length : Int) - 1)).toNat (Pr.mk c_16.x0 (w64 (c_15 - 1)))).map Pr.c).flatten ++ sl_17))] (Buf.own (n := 2) (l := (out_1.set (w64 ((out_1.length : Int) - 1)).toNat (Pr.mk c_16.x0 (w64 (c_15 - 1)))).map Pr.c) ob_17 cap_17 len_17 sl_17 (elemsOK_map Pr.c_ok _) (by simp [hl_18]) hc_17 hs_17) hx0
        · replace h := iteF h hc_14
          refine VW.draw 15 mix rfl (VA.t (i := 0) rfl (t_move rfl rfl) (.inl rfl) (by kernel_rfl) (VA.phase (g := 3) [1, 2, 3, 4, 5, 6, 7, 8, 9, 10, 11] 11 (VP.take (i := 1) rfl (TOp.r (t_move rfl rfl)) (.inl rfl) (by kernel_rfl) (VP.take (i := 2) rfl (TOp.r (t_move rfl rfl)) (.inl rfl) (by kernel_rfl) (VP.take (i := 3) (v := .vptr [.i c_6]) rfl (TOp.r (t_indexAddr rfl sl80 rfl rfl (getI_some hc_6).1 (map_get (getI_some hc_6).2 rfl) rfl)) (.inl rfl) (by kernel_rfl) (VP.take (i := 4) (v := .i c_6) rfl (r_load_v rfl sz3 rfl rfl) (.inl rfl) (by kernel_rfl) (VP.take (i := 5) rfl (TOp.r (t_move rfl rfl)) (.inl rfl) (by kernel_rfl) (VP.take (i := 6) rfl (TOp.r (t_move rfl rfl)) (.inl rfl) (by kernel_rfl) (VP.take (i := 7) (v := .i (w64 (i_2 + 1))) rfl (TOp.r (t_add rfl rfl (fun _ _ => rfl) rfl)) (.inl rfl) (by kernel_rfl) ?_)))))))))
          obtain ⟨c_19, hc_19, h⟩ := obind h
          refine VP.take (i := 8) (v := .vptr [.i c_19]) rfl (TOp.r (t_indexAddr rfl sl80 rfl rfl (getI_some hc_19).1 (map_get (getI_some hc_19).2 rfl) rfl)) (.inl rfl) (by kernel_rfl) (VP.take (i := 9) (v := .i c_19) rfl (r_load_v rfl sz3 rfl rfl) (.inl rfl) (by kernel_rfl) (VP.take (i := 10) (v := .i (w64 (c_19 - 1))) rfl (TOp.r (t_sub rfl rfl (fun _ _ => rfl) rfl)) (.inl rfl) (by kernel_rfl) (VP.take (i := 11) (v := .agg [.i c_6, .i (w64 (c_19 - 1))]) rfl (TOp.r (t_build_arr rfl av59 ⟨_, _, rfl, rfl, rfl, _, _, rfl, rfl, rfl, rfl⟩ rfl)) (.inl rfl) (by kernel_rfl) (VP.done (by kernel_rfl) (VA.w (i := 12) (fun v H' => ∃ t_20, .sl (.cap t_20 2) (([Pr.mk c_6 (w64 (c_19 - 1))]).map Pr.c) = v ∧ H' = hq ([[(ob_3, .cells (Node.l a0))], bbu6108]) ([.cap t_20 2])) rfl (w_buildSlice (l := [[.i c_6, .i (w64 (c_19 - 1))]]) rfl el31 ⟨rfl, _, _, rfl, rfl, rfl, rfl, rfl⟩ rfl (nle rfl) (fun tk => ⟨tk, by simp only [List.map_cons, List.map_nil, Pr.c_eq], rfl⟩)) (.inl rfl) (by kernel_rfl) rfl ?_)))))
          rintro _ _ ⟨t_20, rfl, rfl⟩
          obtain ⟨_, hr_21, h⟩ := obind h
          refine VA.w (i := 13) (fun v H' => ∃ vbu_22 bbu_22, Buf 2 ((out_1 ++ ([Pr.mk c_6 (w64 (c_19 - 1))])).map Pr.c) vbu_22 bbu_22 ∧ vbu_22 = v ∧ H' = hq ([bbu_22, [(ob_3, .cells (Node.l a0))]]) ([.cap t_20 2])) rfl (w_append_buf (i := 1) rfl el31 rfl rfl hbu6108 rfl (elemsOK_map Pr.c_ok _) (by have := room_some hr_21; simpa using this) (nle rfl) (fun v b hB => ⟨v, b, by simpa using hB, rfl, rfl⟩)) (.inl rfl) (by kernel_rfl) rfl ?_
          rintro _ _ ⟨vbu_22, bbu_22, hbu_22, rfl, rfl⟩
          refine VA.t (i := 14) (v := vbu_22) rfl (t_assign rfl rfl) (.inl rfl) (by kernel_rfl) (VA.done (by kernel_rfl) (blockQ_normal (thenQ_normal (VW.k4 1 3 5 4 rfl (VW.hsub (A := hq ([bbu_22, [(ob_3, .cells (Node.l a0))]]) []) (hq_sub (.cons_cons _ (.cons_cons _ .slnil)) (.cons _ .slnil)) (VW.region (VO.m rfl rfl (VO.t (v := .i (w64 (i_2 + 1))) (t_add rfl rfl (fun _ _ => rfl) rfl) rfl rfl (VO.a (v := .i (w64 (i_2 + 1))) rfl rfl ?_)))))))))
          refine VO.nil (thenQ_normal (VL.round ?_))
          refine VW.k4 1 3 4 5 rfl (VW.frontS 0 rfl (VW.frontS 1 rfl ?_))
          exact ih _ _ _ h ob_3 vbu_22 bbu_22 hbu_22 hx0
      · refine VW.draw 16 mix rfl (VA.t (i := 0) rfl (t_move rfl rfl) (.inl rfl) (by kernel_rfl) (VA.t (i := 1) (v := .bool (decide ((out_1.length : Int) > 0))) rfl (t_cmp rfl rfl rfl (fun _ _ => rfl) rfl) (.inl rfl) (by kernel_rfl) (VA.t (i := 2) rfl (t_move rfl rfl) (.inl rfl) (by kernel_rfl) ?_)))
        refine VA.caseB (d := 29) (b := (decide ((out_1.length : Int) > 0))) rfl (fun hc_23 => ?_) (fun hc_23 => ?_)
        · replace h := iteT h hc_23
          refine VA.phase (g := 0) [3, 4, 5, 6, 7, 8, 9, 10, 11, 12, 13, 14, 15] 13 (VP.take (i := 3) rfl (TOp.r (t_move rfl rfl)) (.inr ⟨_, _, _, rfl, rfl, rfl⟩) (by kernel_rfl) (VP.take (i := 4) rfl (TOp.r (t_move rfl rfl)) (.inr ⟨_, _, _, rfl, rfl, rfl⟩) (by kernel_rfl) (VP.take (i := 5) (v := .i (w64 ((out_1.length : Int) - 1))) rfl (TOp.r (t_sub rfl rfl (fun _ _ => rfl) rfl)) (.inr ⟨_, _, _, rfl, rfl, rfl⟩) (by kernel_rfl) ?_)))
          obtain ⟨c_24, hc_24, h⟩ := obind h
          obtain ⟨ob_25, cap_25, len_25, sl_25, rfl, rfl, hE_25, hl_25, hc_25, hs_25⟩ := buf_at hbu6070 hc_24
          refine VP.take (i := 6) (v := .ptr ob_25 ((w64 ((out_1.length : Int) - 1)).toNat * 2 + 0)) rfl (TOp.r (t_index_own rfl sl31 rfl rfl (getI_some hc_24).1 (by rw [hl_25]; exact getI_lt hc_24) rfl)) (.inr ⟨_, _, _, rfl, rfl, rfl⟩) (by kernel_rfl) (VP.take (i := 7) (v := .ptr ob_25 ((w64 ((out_1.length : Int) - 1)).toNat * 2 + 1)) rfl (TOp.r (t_indexAddr_parr rfl ar59 rfl (fun _ _ => rfl) (by decide) (by decide) rfl)) (.inr ⟨_, _, _, rfl, rfl, rfl⟩) (by kernel_rfl) (VP.take (i := 8) (v := .i c_24.x1) rfl (r_load_buf (n := 2) (f := 1) (j := 1) rfl sz3 rfl rfl hE_25 (map_get (getI_some hc_24).2 (Pr.c_eq c_24)) (nle rfl) (fun _ => rfl)) (.inr ⟨_, _, _, rfl, rfl, rfl⟩) (by kernel_rfl) (VP.take (i := 9) rfl (TOp.r (t_move rfl rfl)) (.inr ⟨_, _, _, rfl, rfl, rfl⟩) (by kernel_rfl) (VP.take (i := 10) rfl (TOp.r (t_move rfl rfl)) (.inr ⟨_, _, _, rfl, rfl, rfl⟩) (by kernel_rfl) (VP.take (i := 11) (v := .vptr [.i c_6]) rfl (TOp.r (t_indexAddr rfl sl80 rfl rfl (getI_some hc_6).1 (map_get (getI_some hc_6).2 rfl) rfl)) (.inr ⟨_, _, _, rfl, rfl, rfl⟩) (by kernel_rfl) (VP.take (i := 12) (v := .i c_6) rfl (r_load_v rfl sz3 rfl rfl) (.inr ⟨_, _, _, rfl, rfl, rfl⟩) (by kernel_rfl) (VP.take (i := 13) (v := .i (w64 (c_6 - 1))) rfl (TOp.r (t_sub rfl rfl (fun _ _ => rfl) rfl)) (.inr ⟨_, _, _, rfl, rfl, rfl⟩) (by kernel_rfl) (VP.take (i := 14) (v := .bool (c_24.x1 == (w64 (c_6 - 1)))) rfl (TOp.r (t_cmp rfl rfl rfl rfl rfl)) (.inr ⟨_, _, _, rfl, rfl, rfl⟩) (by kernel_rfl) (VP.take (i := 15) (v := .bool (c_24.x1 == (w64 (c_6 - 1)))) rfl (TOp.r (t_pick (b := true) rfl rfl (fun _ => rfl) (fun h => by cases h))) (.inl rfl) (by kernel_rfl) ?_)))))))))
          refine VP.done (by kernel_rfl) (VA.subN (t' := [(1, .ptr ob_3 0), (3, .sl .fz (rv_0.map (cInt .i64))), (4, .own ob_25 cap_25 len_25), (5, .i i_2), (6, .i (out_1.length : Int)), (42, .bool (c_24.x1 == (w64 (c_6 - 1))))]) ⟨⟨_, rfl, VLe.refl _⟩, ⟨_, rfl, VLe.refl _⟩, ⟨_, rfl, VLe.refl _⟩, ⟨_, rfl, VLe.refl _⟩, ⟨_, rfl, VLe.refl _⟩, ⟨_, rfl, VLe.refl _⟩, trivial⟩ rfl (VA.done (by kernel_rfl) ?_))
          exact thenQ_normal (J_13 ⟨c_24.x1 == (w64 (c_6 - 1)), (.own ob_25 cap_25 len_25), [(ob_25, .cells ((out_1.map Pr.c).flatten ++ sl_25))]⟩ ⟨Option.some.inj h, (Buf.own (n := 2) (l := out_1.map Pr.c) ob_25 cap_25 len_25 sl_25 (elemsOK_map Pr.c_ok _) (by simp [hl_25]) hc_25 hs_25), trivial⟩)
        · replace h := iteF h hc_23
          refine VA.s 3 rfl (by kernel_rfl) (VA.s 4 rfl (by kernel_rfl) (VA.s 5 rfl (by kernel_rfl) (VA.s 6 rfl (by kernel_rfl) (VA.s 7 rfl (by kernel_rfl) (VA.s 8 rfl (by kernel_rfl) (VA.s 9 rfl (by kernel_rfl) (VA.s 10 rfl (by kernel_rfl) (VA.s 11 rfl (by kernel_rfl) (VA.s 12 rfl (by kernel_rfl) ?_)))))))))
          refine VA.s 13 rfl (by kernel_rfl) (VA.s 14 rfl (by kernel_rfl) (VA.t (i := 15) (v := .bool false) rfl (t_pick (b := false) rfl rfl (fun h => by cases h) (fun _ => (fun _ _ => rfl))) (.inl rfl) (by kernel_rfl) (VA.subN (t' := [(1, .ptr ob_3 0), (3, .sl .fz (rv_0.map (cInt .i64))), (4, vbu6070), (5, .i i_2), (6, .i (out_1.length : Int)), (42, .bool false)]) ⟨⟨_, rfl, VLe.refl _⟩, ⟨_, rfl, VLe.refl _⟩, ⟨_, rfl, VLe.refl _⟩, ⟨_, rfl, VLe.refl _⟩, ⟨_, rfl, VLe.refl _⟩, ⟨_, rfl, VLe.refl _⟩, trivial⟩ rfl (VA.done (by kernel_rfl) ?_))))
          exact thenQ_normal (J_13 ⟨false, vbu6070, bbu6070⟩ ⟨Option.some.inj h, hbu6070, trivial⟩)
  · replace h := iteF h hc_5
    refine VW.k1 4 rfl (VW.frontS 1 rfl (VW.hsub (A := hq ([bbu6070]) []) (hq_sub (.cons_cons _ (.cons _ .slnil)) .slnil) (VW.exit (thenQ_exit (thenQ_exit ?_)))))
    obtain rfl := oi h
    exact hx0 _ vbu6070 bbu6070 rfl hbu6070

theorem ref03_set_ok (a0 : Node) (r : List Pr) (h : PL.ref03_set a0 = some r) :
    VCalls Tryd.prog 27 [.agg (Node.l a0)] (hq [] []) (fun v H => .sl .fz (r.map Pr.c) = v ∧ H = hq [] []) := by
  unfold PL.ref03_set at h
  refine VCalls.of_body 69 [2] Tryd.func27 rfl rfl rfl (nle rfl) (VW.k1 0 rfl (VW.q (VO.w (fun v H' => ∃ ob_0, .ptr ob_0 0 = v ∧ H' = hq ([[(ob_0, .cells (Node.l a0))]]) []) (w_box_q rfl rfl rfl (fun ob => ⟨ob, rfl, rfl⟩)) rfl rfl ?_)))
  rintro _ _ ⟨ob_0, rfl, rfl⟩
  refine VO.a (v := .sl .nl []) rfl (fun _ _ => .inl ⟨rfl, .inl rfl⟩) (VO.eqv (A := hq ([[], [(ob_0, .cells (Node.l a0))]]) []) (.refl _) (VO.n (VW.k1 1 rfl (VW.hsub (A := hq ([[(ob_0, .cells (Node.l a0))]]) []) (hq_sub (.cons _ (.cons_cons _ .slnil)) .slnil) (VW.q (VO.r (v := .agg (Node.l a0)) (r_load_q (i := 0) rfl sz24 rfl rfl rfl) rfl rfl ?_))))))
  obtain ⟨rv_1, hx_2, h⟩ := obind h
  refine VO.k (w_keep rfl fn46 rfl ⟨_, _, rfl, rfl, .sl .fz [], _, rfl, (fun _ _ => .inl ⟨rfl, .inl rfl⟩), rfl⟩ (ref03_places_ok _ _ _ hx_2)) rfl rfl ?_
  obtain ⟨rv_3, hx_4, h⟩ := obind h
  refine VO.k (w_keep rfl fn45 rfl ⟨_, _, rfl, rfl, .i (-1000000000000000), _, rfl, (fun _ _ => rfl), rfl⟩ (ref03_put_ok _ _ _ hx_4)) rfl rfl ?_
  obtain ⟨rv_5, hx_6, h⟩ := obind h
  refine VO.k (w_keep rfl fn45 rfl ⟨_, _, rfl, rfl, .i 1000000000000001, _, rfl, (fun _ _ => rfl), rfl⟩ (ref03_put_ok _ _ _ hx_6)) rfl rfl (VO.a (v := .sl .fz (rv_5.map (cInt .i64))) rfl rfl (VO.n (VW.k2 1 3 rfl (VW.q (VO.a (v := .sl .nl []) rfl (fun _ _ => .inl ⟨rfl, .inl rfl⟩) (VO.eqv (A := hq ([[], [(ob_0, .cells (Node.l a0))]]) []) (.refl _) (VO.n (VW.seq (VW.q ?_)))))))))
  refine VO.a (v := .i 0) rfl (fun _ _ => rfl) (VO.n (VW.block (VW.k4 1 3 4 5 rfl (VW.frontS 0 rfl (VW.frontS 1 rfl ?_)))))
  obtain ⟨o_7, hx_8, h⟩ := obind h
  refine VW.loopL (ref03_set.l0_ok a0 rv_5 _ _ _ hx_8 ob_0 (.sl .nl []) [] (.nil rfl) ?_)
  · intro out_9 vbu6099 bbu6099 ho_ hbu6099
    subst ho_
    try dsimp only at h
    refine blockQ_hit (thenQ_normal (VW.q (VO.m rfl rfl (VO.a (v := vbu6099) rfl rfl (VO.n (VW.k1 2 rfl (VW.freeze (t' := [(2, .sl .fz (out_9.map Pr.c))]) 0 rfl hbu6099 ⟨.inr ⟨rfl, rfl⟩, trivial⟩ rfl (VW.ret ?_))))))))
    cases oi h
    exact ret0 rfl rfl ⟨rfl, rfl⟩

theorem ref03_Of_ok (a0 : Node) (r : List Pr × Int) (h : PL.ref03_Of a0 = some r) :
    VCalls Tryd.prog 8 [.agg (Node.l a0)] (hq [] []) (fun v H => .tup [.sl .fz (r.1.map Pr.c), .i r.2] = v ∧ H = hq [] []) := by
  unfold PL.ref03_Of at h
  refine VCalls.of_body 15 [2, 3] Tryd.func8 rfl rfl rfl (nle rfl) (VW.k1 0 rfl (VW.q (VO.w (fun v H' => ∃ ob_0, .ptr ob_0 0 = v ∧ H' = hq ([[(ob_0, .cells (Node.l a0))]]) []) (w_box_q rfl rfl rfl (fun ob => ⟨ob, rfl, rfl⟩)) rfl rfl ?_)))
  rintro _ _ ⟨ob_0, rfl, rfl⟩
  refine VO.a (v := .sl .nl []) rfl (fun _ _ => .inl ⟨rfl, .inl rfl⟩) (VO.a (v := .i 0) rfl (fun _ _ => rfl) (VO.n (VW.k1 1 rfl (VW.seq (VW.q (VO.r (v := .agg (Node.l a0)) (r_load_q (i := 0) rfl sz24 rfl rfl rfl) rfl rfl ?_))))))
  obtain ⟨rv_1, hx_2, h⟩ := obind h
  refine VO.k (w_keep rfl fn25 rfl ⟨_, _, rfl, rfl, rfl⟩ (ref03_Check_ok _ _ hx_2)) rfl rfl (VO.a (v := .i rv_1) rfl rfl (VO.n (VW.k2 1 4 rfl (VW.q (VO.m rfl rfl (VO.t (v := .bool (rv_1 != 0)) (t_cmp rfl rfl rfl (fun _ _ => rfl) rfl) rfl rfl (VO.n (VW.k3 1 4 8 rfl ?_))))))))
  refine VW.cond (b := (rv_1 != 0)) rfl (fun hc_3 => ?_) (fun hc_3 => ?_)
  · replace h := iteT h hc_3
    refine VW.q (VO.m rfl rfl (VO.a (v := .sl .nl []) rfl (fun _ _ => .inl ⟨rfl, .inl rfl⟩) (VO.a (v := .i rv_1) rfl rfl (VO.n (VW.k2 2 3 rfl (VW.hsub (A := hq [] []) (hq_sub (.cons _ .slnil) .slnil) (VW.ret (thenQ_ret ?_))))))))
    obtain rfl := oi h
    exact ⟨.inr rfl, rfl, _, .tup [.sl .fz [], .i rv_1], hq [] [], ⟨_, _, rfl, rfl, rfl⟩, VLe.tup ⟨VLe.sl _ _, VLe.refl _, trivial⟩, hq_sub .slnil .slnil, rfl, rfl⟩
  · replace h := iteF h hc_3
    refine VW.skip (thenQ_normal (VW.k1 1 rfl (VW.q (VO.r (v := .agg (Node.l a0)) (r_load_q (i := 0) rfl sz24 rfl rfl rfl) rfl rfl ?_))))
    obtain ⟨rv_4, hx_5, h⟩ := obind h
    refine VO.k (w_keep rfl fn27 rfl ⟨_, _, rfl, rfl, rfl⟩ (ref03_set_ok _ _ hx_5)) rfl rfl ?_
    obtain ⟨⟨rv_6, rv_7⟩, hx_8, h⟩ := obind h
    try dsimp only at h
    refine VO.k (w_keep rfl fn26 rfl ⟨_, _, rfl, rfl, rfl⟩ (ref03_told_ok _ _ hx_8)) rfl rfl (VO.t (v := .sl .fz (rv_6.map Pr.c)) (t_extract rfl rfl rfl) rfl rfl (VO.t (v := .i rv_7) (t_extract rfl rfl rfl) rfl rfl (VO.a (v := .sl .fz (rv_6.map Pr.c)) rfl rfl (VO.a (v := .i rv_7) rfl rfl (VO.n (VW.k2 2 3 rfl (VW.hsub (A := hq [] []) (hq_sub (.cons _ .slnil) .slnil) (VW.ret ?_))))))))
    obtain rfl := oi h
    exact ⟨.inr rfl, rfl, _, .tup [.sl .fz (rv_6.map Pr.c), .i rv_7], hq [] [], ⟨_, _, rfl, rfl, rfl⟩, VLe.tup ⟨VLe.refl _, VLe.refl _, trivial⟩, hq_sub .slnil .slnil, rfl, rfl⟩

theorem set_extends_ok (a0 : Node) (r : Bool) (h : PL.set_extends a0 = some r) :
    VCalls Tryd.prog 28 [.agg (Node.l a0)] (hq [] []) (fun v H => .bool r = v ∧ H = hq [] []) := by
  revert h
  refine (PL.set_extends_1.mutual_partial_correctness (motive_1 := fun a0 r => VCalls Tryd.prog 49 [.agg (Node.l a0)] (hq [] []) (fun v H => .bool r = v ∧ H = hq [] [])) (motive_2 := fun a0 r => VCalls Tryd.prog 28 [.agg (Node.l a0)] (hq [] []) (fun v H => .bool r = v ∧ H = hq [] [])) (motive_3 := fun a0 r => VCalls Tryd.prog 48 [.sl .fz (a0.map Node.c), .func (.func 49) [] []] (hq [] []) (fun v H => .bool r = v ∧ H = hq [] [])) (motive_4 := fun a0 r => VCalls Tryd.prog 59 [.sl .fz (a0.map Node.c), .func (.func 49) [] []] (hq [] []) (fun v H => .i r = v ∧ H = hq [] [])) (motive_5 := fun a0 x_0 o => ∀ (Q : Exit → Env → HH → Prop) (hx0 : Sum.inl () = o → Q (.exit 0) ⟨[], []⟩ (hq [] [])) (hx1 : ∀ (x_1 : Int), Sum.inr x_1 = o → Q .ret ⟨[(4, .i x_1)], []⟩ (hq [] [])), VW Tryd.prog 19 (codeAt [1, 0, 1, 0, 0] (bodyOf Tryd.f59)) (thenQ (VL Tryd.prog 19 (codeAt [1, 0, 1, 0, 0] (bodyOf Tryd.f59)) Q) Q) ⟨[(0, .sl .fz (a0.map Node.c)), (1, .func (.func 49) [] []), (7, .i (a0.length : Int)), (8, .i x_0)], []⟩ (hq [] [])) (motive_6 := fun a0 r => VCalls Tryd.prog 48 [.sl .fz (a0.map Node.c), .func (.func 28) [] []] (hq [] []) (fun v H => .bool r = v ∧ H = hq [] [])) (motive_7 := fun a0 r => VCalls Tryd.prog 59 [.sl .fz (a0.map Node.c), .func (.func 28) [] []] (hq [] []) (fun v H => .i r = v ∧ H = hq [] [])) (motive_8 := fun a0 x_2 o => ∀ (Q : Exit → Env → HH → Prop) (hx0 : Sum.inl () = o → Q (.exit 0) ⟨[], []⟩ (hq [] [])) (hx1 : ∀ (x_3 : Int), Sum.inr x_3 = o → Q .ret ⟨[(4, .i x_3)], []⟩ (hq [] [])), VW Tryd.prog 19 (codeAt [1, 0, 1, 0, 0] (bodyOf Tryd.f59)) (thenQ (VL Tryd.prog 19 (codeAt [1, 0, 1, 0, 0] (bodyOf Tryd.f59)) Q) Q) ⟨[(0, .sl .fz (a0.map Node.c)), (1, .func (.func 28) [] []), (7, .i (a0.length : Int)), (8, .i x_2)], []⟩ (hq [] [])) ?_ ?_ ?_ ?_ ?_ ?_ ?_ ?_).2.1 a0 r
  · intro _ ih_set_extends a0 r h 
    refine VCalls.of_body 6 [2] Tryd.func49 rfl rfl rfl (nle rfl) (VW.k1 0 rfl (VW.q (VO.w (fun v H' => ∃ ob_4, .ptr ob_4 0 = v ∧ H' = hq ([[(ob_4, .cells (Node.l a0))]]) []) (w_box_q rfl rfl rfl (fun ob => ⟨ob, rfl, rfl⟩)) rfl rfl ?_)))
    rintro _ _ ⟨ob_4, rfl, rfl⟩
    refine VO.a (v := .bool false) rfl (fun _ _ => rfl) (VO.n (VW.k1 1 rfl (VW.q (VO.r (v := .agg (Node.l a0)) (r_load_q (i := 0) rfl sz29 rfl rfl rfl) rfl rfl ?_))))
    obtain ⟨rv_5, hx_6, h⟩ := obind h
    refine VO.k (w_keep rfl fn28 rfl ⟨_, _, rfl, rfl, rfl⟩ (ih_set_extends _ _ hx_6)) rfl rfl (VO.t (v := .bool (!rv_5)) (t_not rfl rfl rfl) rfl rfl (VO.a (v := .bool (!rv_5)) rfl rfl (VO.n (VW.ret ?_))))
    cases oi h
    exact ret0 rfl rfl ⟨rfl, rfl⟩
  · intro _ _ _ ih_set_extends ih_slices_ContainsFunc_of_set_extends_1 ih_slices_ContainsFunc_of_set_extends a0 r h 
    refine VCalls.of_body 25 [2] Tryd.func28 rfl rfl rfl (nle rfl) (VW.k1 0 rfl (VW.q (VO.w (fun v H' => ∃ ob_7, .ptr ob_7 0 = v ∧ H' = hq ([[(ob_7, .cells (Node.l a0))]]) []) (w_box_q rfl rfl rfl (fun ob => ⟨ob, rfl, rfl⟩)) rfl rfl ?_)))
    rintro _ _ ⟨ob_7, rfl, rfl⟩
    refine VO.a (v := .bool false) rfl (fun _ _ => rfl) (VO.n (VW.k1 1 rfl (VW.seq (VW.q (VO.t (v := .ptr ob_7 0) (t_fieldAddr_ptr rfl fi29_0 rfl rfl) rfl rfl (VO.r (v := .i a0.Op) (r_load_q (i := 0) rfl sz3 rfl rfl rfl) rfl rfl (VO.n (VW.k2 1 4 rfl (VW.block ?_)))))))))
    refine VW.q (VO.t (v := .bool (a0.Op == 5)) (t_cmp rfl rfl rfl (fun _ _ => rfl) rfl) rfl rfl (VO.a (v := .bool (a0.Op == 5)) rfl rfl (VO.n (VW.k3 1 4 5 rfl ?_))))
    refine VW.cond (b := (a0.Op == 5)) rfl (fun hc_8 => ?_) (fun hc_8 => ?_)
    · replace h := iteT h hc_8
      refine VW.q (VO.a (v := .bool true) rfl (fun _ _ => rfl) (VO.n (VW.ret (blockQ_ret (thenQ_ret ?_)))))
      cases oi h
      exact ret0 rfl rfl ⟨rfl, rfl⟩
    · replace h := iteF h hc_8
      refine VW.q (VO.t (v := .bool (a0.Op == 1)) (t_cmp rfl rfl rfl (fun _ _ => rfl) rfl) rfl rfl (VO.a (v := .bool (a0.Op == 1)) rfl rfl (VO.n (VW.k3 1 4 7 rfl ?_))))
      refine VW.cond (b := (a0.Op == 1)) rfl (fun hc_9 => ?_) (fun hc_9 => ?_)
      · replace h := iteT h hc_9
        refine VW.q (VO.t (v := .ptr ob_7 3) (t_fieldAddr_ptr rfl fi29_3 rfl rfl) rfl rfl (VO.r (v := .sl .fz (a0.Kids.map Node.c)) (r_load_q (i := 0) rfl sz27 rfl rfl rfl) rfl rfl ?_))
        obtain ⟨rv_10, hx_11, h⟩ := obind h
        refine VO.k (w_keep rfl fn48 rfl ⟨_, _, rfl, rfl, _, _, rfl, rfl, rfl⟩ (ih_slices_ContainsFunc_of_set_extends _ _ hx_11)) rfl rfl (VO.a (v := .bool rv_10) rfl rfl (VO.n (VW.ret (blockQ_ret (thenQ_ret ?_)))))
        cases oi h
        exact ret0 rfl rfl ⟨rfl, rfl⟩
      · replace h := iteF h hc_9
        refine VW.q (VO.t (v := .bool (a0.Op == 2)) (t_cmp rfl rfl rfl (fun _ _ => rfl) rfl) rfl rfl (VO.a (v := .bool (a0.Op == 2)) rfl rfl (VO.n (VW.k3 1 4 12 rfl ?_))))
        refine VW.cond (b := (a0.Op == 2)) rfl (fun hc_12 => ?_) (fun hc_12 => ?_)
        · replace h := iteT h hc_12
          refine VW.q (VO.t (v := .ptr ob_7 3) (t_fieldAddr_ptr rfl fi29_3 rfl rfl) rfl rfl (VO.r (v := .sl .fz (a0.Kids.map Node.c)) (r_load_q (i := 0) rfl sz27 rfl rfl rfl) rfl rfl ?_))
          obtain ⟨rv_13, hx_14, h⟩ := obind h
          refine VO.k (w_keep rfl fn48 rfl ⟨_, _, rfl, rfl, _, _, rfl, rfl, rfl⟩ (ih_slices_ContainsFunc_of_set_extends_1 _ _ hx_14)) rfl rfl (VO.t (v := .bool (!rv_13)) (t_not rfl rfl rfl) rfl rfl (VO.a (v := .bool (!rv_13)) rfl rfl (VO.n (VW.ret (blockQ_ret (thenQ_ret ?_))))))
          cases oi h
          exact ret0 rfl rfl ⟨rfl, rfl⟩
        · replace h := iteF h hc_12
          refine VW.q (VO.t (v := .bool (a0.Op == 3)) (t_cmp rfl rfl rfl (fun _ _ => rfl) rfl) rfl rfl (VO.a (v := .bool (a0.Op == 3)) rfl rfl (VO.n (VW.k2 1 18 rfl ?_))))
          refine VW.cond (b := (a0.Op == 3)) rfl (fun hc_15 => ?_) (fun hc_15 => ?_)
          · replace h := iteT h hc_15
            refine VW.q (VO.t (v := .ptr ob_7 3) (t_fieldAddr_ptr rfl fi29_3 rfl rfl) rfl rfl (VO.r (v := .sl .fz (a0.Kids.map Node.c)) (r_load_q (i := 0) rfl sz27 rfl rfl rfl) rfl rfl ?_))
            obtain ⟨c_16, hc_16, h⟩ := obind h
            refine VO.t (v := .vptr (Node.l c_16)) (t_indexAddr rfl sl27 rfl (fun _ _ => rfl) (getI_some hc_16).1 (map_get (getI_some hc_16).2 (Node.c_eq c_16)) rfl) rfl rfl (VO.r (v := .agg (Node.l c_16)) (r_load_v rfl sz29 rfl rfl) rfl rfl ?_)
            obtain ⟨rv_17, hx_18, h⟩ := obind h
            refine VO.k (w_keep rfl fn28 rfl ⟨_, _, rfl, rfl, rfl⟩ (ih_set_extends _ _ hx_18)) rfl rfl (VO.a (v := .bool rv_17) rfl rfl (VO.n (VW.ret (blockQ_ret (thenQ_ret ?_)))))
            cases oi h
            exact ret0 rfl rfl ⟨rfl, rfl⟩
          · replace h := iteF h hc_15
            refine VW.skip (blockQ_normal (thenQ_normal (VW.subN (t' := []) trivial rfl (VW.hsub (A := hq [] []) (hq_sub (.cons _ .slnil) .slnil) (VW.q (VO.a (v := .bool false) rfl (fun _ _ => rfl) (VO.n (VW.ret ?_))))))))
            cases oi h
            exact ret0 rfl rfl ⟨rfl, rfl⟩
  · intro _ ih_slices_IndexFunc_of_set_extends_1 a0 r h 
    refine VCalls.of_body 9 [4] Tryd.func48 rfl rfl rfl (nle rfl) (VW.k2 0 1 rfl (VW.q (VO.a (v := .bool false) rfl (fun _ _ => rfl) (VO.n (VW.k2 0 1 rfl (VW.q (VO.m rfl rfl (VO.m rfl rfl ?_))))))))
    obtain ⟨rv_19, hx_20, h⟩ := obind h
    refine VO.k (w_keep rfl fn59 rfl ⟨_, _, rfl, rfl, _, _, rfl, rfl, rfl⟩ (ih_slices_IndexFunc_of_set_extends_1 _ _ hx_20)) rfl rfl (VO.t (v := .bool (decide (rv_19 ≥ 0))) (t_cmp rfl rfl rfl (fun _ _ => rfl) rfl) rfl rfl (VO.a (v := .bool (decide (rv_19 ≥ 0))) rfl rfl (VO.n (VW.ret ?_))))
    cases oi h
    exact ret0 rfl rfl ⟨rfl, rfl⟩
  · intro _ ih_slices_IndexFunc_of_set_extends_1_l0 a0 r h 
    refine VCalls.of_body 19 [4] Tryd.func59 rfl rfl rfl (nle rfl) (VW.k2 0 1 rfl (VW.q (VO.a (v := .i 0) rfl (fun _ _ => rfl) (VO.n (VW.k2 0 1 rfl (VW.seq (VW.q (VO.m rfl rfl (VO.t (v := .i (a0.length : Int)) (t_len rfl ⟨_, Tryd.underlying27⟩ rfl (by rw [List.length_map])) rfl rfl ?_)))))))))
    refine VO.m (v := .i 0) rfl (fun _ _ => rfl) (VO.n (VW.k4 0 1 7 8 rfl (VW.block (VW.k4 0 1 7 8 rfl ?_))))
    obtain ⟨o_21, hx_22, h⟩ := obind h
    refine VW.loopL (ih_slices_IndexFunc_of_set_extends_1_l0 _ _ _ hx_22 _ ?_ ?_)
    · intro ho_
      subst ho_
      try dsimp only at h
      refine blockQ_hit (thenQ_normal (VW.q (VO.a (v := .i (-1)) rfl (fun _ _ => rfl) (VO.n (VW.ret ?_)))))
      cases oi h
      exact ret0 rfl rfl ⟨rfl, rfl⟩
    · intro x_1 ho_
      subst ho_
      try dsimp only at h
      refine blockQ_ret (thenQ_ret ?_)
      obtain rfl := oi h
      exact ⟨.inr rfl, rfl, _, .i x_1, hq [] [], rfl, VLe.refl _, hq_sub .slnil .slnil, rfl, rfl⟩
  · intro _ _ ih_set_extends_1 ih_slices_IndexFunc_of_set_extends_1_l0 a0 x_0 o h Q hx0 hx1
    refine VW.q (VO.t (v := .bool (decide (x_0 < (a0.length : Int)))) (t_cmp rfl rfl rfl rfl rfl) rfl rfl (VO.n (VW.seq ?_)))
    refine VW.cond (b := (decide (x_0 < (a0.length : Int)))) rfl (fun hc_23 => ?_) (fun hc_23 => ?_)
    · replace h := iteT h hc_23
      refine VW.skip (thenQ_normal (VW.k4 0 1 7 8 rfl (VW.seq (VW.block (VW.q (VO.m rfl rfl (VO.a (v := .i x_0) rfl rfl (VO.n (VW.k5 0 1 7 8 5 rfl ?_)))))))))
      refine VW.q (VO.m rfl rfl (VO.m rfl rfl (VO.m rfl rfl ?_)))
      obtain ⟨c_24, hc_24, h⟩ := obind h
      refine VO.t (v := .vptr (Node.l c_24)) (t_indexAddr rfl sl27 rfl rfl (getI_some hc_24).1 (map_get (getI_some hc_24).2 (Node.c_eq c_24)) rfl) rfl rfl (VO.r (v := .agg (Node.l c_24)) (r_load_v rfl sz29 rfl rfl) rfl rfl ?_)
      obtain ⟨rv_25, hx_26, h⟩ := obind h
      refine VO.k (w_keep rfl fn49 rfl ⟨_, _, rfl, rfl, rfl⟩ (ih_set_extends_1 _ _ hx_26)) rfl rfl (VO.n (VW.k6 0 1 7 8 5 16 rfl ?_))
      refine VW.cond (b := rv_25) rfl (fun hc_27 => ?_) (fun hc_27 => ?_)
      · replace h := iteT h hc_27
        refine VW.q (VO.m rfl rfl (VO.a (v := .i x_0) rfl rfl (VO.n (VW.k1 4 rfl (VW.k1 4 rfl (VW.ret (blockQ_ret (thenQ_ret (thenQ_ret ?_)))))))))
        obtain rfl := oi h
        exact hx1 _ rfl
      · replace h := iteF h hc_27
        refine VW.skip (blockQ_normal (thenQ_normal (VW.k4 0 1 7 8 rfl (VW.region (VO.t (v := .i (w64 (x_0 + 1))) (t_add rfl rfl (fun _ _ => rfl) rfl) rfl rfl (VO.m rfl rfl (VO.nil (thenQ_normal (VL.round ?_)))))))))
        refine VW.k4 0 1 7 8 rfl ?_
        exact ih_slices_IndexFunc_of_set_extends_1_l0 _ _ _ h _ hx0 hx1
    · replace h := iteF h hc_23
      refine VW.subN (t' := []) trivial rfl (VW.exit (thenQ_exit (thenQ_exit ?_)))
      obtain rfl := oi h
      exact hx0  rfl
  · intro _ ih_slices_IndexFunc_of_set_extends a0 r h 
    refine VCalls.of_body 9 [4] Tryd.func48 rfl rfl rfl (nle rfl) (VW.k2 0 1 rfl (VW.q (VO.a (v := .bool false) rfl (fun _ _ => rfl) (VO.n (VW.k2 0 1 rfl (VW.q (VO.m rfl rfl (VO.m rfl rfl ?_))))))))
    obtain ⟨rv_28, hx_29, h⟩ := obind h
    refine VO.k (w_keep rfl fn59 rfl ⟨_, _, rfl, rfl, _, _, rfl, rfl, rfl⟩ (ih_slices_IndexFunc_of_set_extends _ _ hx_29)) rfl rfl (VO.t (v := .bool (decide (rv_28 ≥ 0))) (t_cmp rfl rfl rfl (fun _ _ => rfl) rfl) rfl rfl (VO.a (v := .bool (decide (rv_28 ≥ 0))) rfl rfl (VO.n (VW.ret ?_))))
    cases oi h
    exact ret0 rfl rfl ⟨rfl, rfl⟩
  · intro _ ih_slices_IndexFunc_of_set_extends_l0 a0 r h 
    refine VCalls.of_body 19 [4] Tryd.func59 rfl rfl rfl (nle rfl) (VW.k2 0 1 rfl (VW.q (VO.a (v := .i 0) rfl (fun _ _ => rfl) (VO.n (VW.k2 0 1 rfl (VW.seq (VW.q (VO.m rfl rfl (VO.t (v := .i (a0.length : Int)) (t_len rfl ⟨_, Tryd.underlying27⟩ rfl (by rw [List.length_map])) rfl rfl ?_)))))))))
    refine VO.m (v := .i 0) rfl (fun _ _ => rfl) (VO.n (VW.k4 0 1 7 8 rfl (VW.block (VW.k4 0 1 7 8 rfl ?_))))
    obtain ⟨o_30, hx_31, h⟩ := obind h
    refine VW.loopL (ih_slices_IndexFunc_of_set_extends_l0 _ _ _ hx_31 _ ?_ ?_)
    · intro ho_
      subst ho_
      try dsimp only at h
      refine blockQ_hit (thenQ_normal (VW.q (VO.a (v := .i (-1)) rfl (fun _ _ => rfl) (VO.n (VW.ret ?_)))))
      cases oi h
      exact ret0 rfl rfl ⟨rfl, rfl⟩
    · intro x_3 ho_
      subst ho_
      try dsimp only at h
      refine blockQ_ret (thenQ_ret ?_)
      obtain rfl := oi h
      exact ⟨.inr rfl, rfl, _, .i x_3, hq [] [], rfl, VLe.refl _, hq_sub .slnil .slnil, rfl, rfl⟩
  · intro _ _ ih_set_extends ih_slices_IndexFunc_of_set_extends_l0 a0 x_2 o h Q hx0 hx1
    refine VW.q (VO.t (v := .bool (decide (x_2 < (a0.length : Int)))) (t_cmp rfl rfl rfl rfl rfl) rfl rfl (VO.n (VW.seq ?_)))
    refine VW.cond (b := (decide (x_2 < (a0.length : Int)))) rfl (fun hc_32 => ?_) (fun hc_32 => ?_)
    · replace h := iteT h hc_32
      refine VW.skip (thenQ_normal (VW.k4 0 1 7 8 rfl (VW.seq (VW.block (VW.q (VO.m rfl rfl (VO.a (v := .i x_2) rfl rfl (VO.n (VW.k5 0 1 7 8 5 rfl ?_)))))))))
      refine VW.q (VO.m rfl rfl (VO.m rfl rfl (VO.m rfl rfl ?_)))
      obtain ⟨c_33, hc_33, h⟩ := obind h
      refine VO.t (v := .vptr (Node.l c_33)) (t_indexAddr rfl sl27 rfl rfl (getI_some hc_33).1 (map_get (getI_some hc_33).2 (Node.c_eq c_33)) rfl) rfl rfl (VO.r (v := .agg (Node.l c_33)) (r_load_v rfl sz29 rfl rfl) rfl rfl ?_)
      obtain ⟨rv_34, hx_35, h⟩ := obind h
      refine VO.k (w_keep rfl fn28 rfl ⟨_, _, rfl, rfl, rfl⟩ (ih_set_extends _ _ hx_35)) rfl rfl (VO.n (VW.k6 0 1 7 8 5 16 rfl ?_))
      refine VW.cond (b := rv_34) rfl (fun hc_36 => ?_) (fun hc_36 => ?_)
      · replace h := iteT h hc_36
        refine VW.q (VO.m rfl rfl (VO.a (v := .i x_2) rfl rfl (VO.n (VW.k1 4 rfl (VW.k1 4 rfl (VW.ret (blockQ_ret (thenQ_ret (thenQ_ret ?_)))))))))
        obtain rfl := oi h
        exact hx1 _ rfl
      · replace h := iteF h hc_36
        refine VW.skip (blockQ_normal (thenQ_normal (VW.k4 0 1 7 8 rfl (VW.region (VO.t (v := .i (w64 (x_2 + 1))) (t_add rfl rfl (fun _ _ => rfl) rfl) rfl rfl (VO.m rfl rfl (VO.nil (thenQ_normal (VL.round ?_)))))))))
        refine VW.k4 0 1 7 8 rfl ?_
        exact ih_slices_IndexFunc_of_set_extends_l0 _ _ _ h _ hx0 hx1
    · replace h := iteF h hc_32
      refine VW.subN (t' := []) trivial rfl (VW.exit (thenQ_exit (thenQ_exit ?_)))
      obtain rfl := oi h
      exact hx0  rfl

theorem set_Extends_ok (a0 : Node) (r : Bool × Int) (h : PL.set_Extends a0 = some r) :
    VCalls Tryd.prog 10 [.agg (Node.l a0)] (hq [] []) (fun v H => .tup [.bool r.1, .i r.2] = v ∧ H = hq [] []) := by
  unfold PL.set_Extends at h
  refine VCalls.of_body 12 [2, 3] Tryd.func10 rfl rfl rfl (nle rfl) (VW.k1 0 rfl (VW.q (VO.w (fun v H' => ∃ ob_0, .ptr ob_0 0 = v ∧ H' = hq ([[(ob_0, .cells (Node.l a0))]]) []) (w_box_q rfl rfl rfl (fun ob => ⟨ob, rfl, rfl⟩)) rfl rfl ?_)))
  rintro _ _ ⟨ob_0, rfl, rfl⟩
  refine VO.a (v := .bool false) rfl (fun _ _ => rfl) (VO.a (v := .i 0) rfl (fun _ _ => rfl) (VO.n (VW.k1 1 rfl (VW.seq (VW.q (VO.r (v := .agg (Node.l a0)) (r_load_q (i := 0) rfl sz29 rfl rfl rfl) rfl rfl ?_))))))
  obtain ⟨rv_1, hx_2, h⟩ := obind h
  refine VO.k (w_keep rfl fn22 rfl ⟨_, _, rfl, rfl, rfl⟩ (set_check_ok _ _ hx_2)) rfl rfl (VO.a (v := .i rv_1) rfl rfl (VO.n (VW.k2 1 4 rfl (VW.q (VO.m rfl rfl (VO.t (v := .bool (rv_1 != 0)) (t_cmp rfl rfl rfl (fun _ _ => rfl) rfl) rfl rfl (VO.n (VW.k3 1 4 8 rfl ?_))))))))
  refine VW.cond (b := (rv_1 != 0)) rfl (fun hc_3 => ?_) (fun hc_3 => ?_)
  · replace h := iteT h hc_3
    refine VW.q (VO.m rfl rfl (VO.a (v := .bool false) rfl (fun _ _ => rfl) (VO.a (v := .i rv_1) rfl rfl (VO.n (VW.k2 2 3 rfl (VW.hsub (A := hq [] []) (hq_sub (.cons _ .slnil) .slnil) (VW.ret (thenQ_ret ?_))))))))
    obtain rfl := oi h
    exact ⟨.inr rfl, rfl, _, .tup [.bool false, .i rv_1], hq [] [], ⟨_, _, rfl, rfl, rfl⟩, VLe.tup ⟨VLe.refl _, VLe.refl _, trivial⟩, hq_sub .slnil .slnil, rfl, rfl⟩
  · replace h := iteF h hc_3
    refine VW.skip (thenQ_normal (VW.k1 1 rfl (VW.q (VO.r (v := .agg (Node.l a0)) (r_load_q (i := 0) rfl sz29 rfl rfl rfl) rfl rfl ?_))))
    obtain ⟨rv_4, hx_5, h⟩ := obind h
    refine VO.k (w_keep rfl fn28 rfl ⟨_, _, rfl, rfl, rfl⟩ (set_extends_ok _ _ hx_5)) rfl rfl (VO.a (v := .bool rv_4) rfl rfl (VO.a (v := .i 0) rfl (fun _ _ => rfl) (VO.n (VW.k2 2 3 rfl (VW.hsub (A := hq [] []) (hq_sub (.cons _ .slnil) .slnil) (VW.ret ?_))))))
    obtain rfl := oi h
    exact ⟨.inr rfl, rfl, _, .tup [.bool rv_4, .i 0], hq [] [], ⟨_, _, rfl, rfl, rfl⟩, VLe.tup ⟨VLe.refl _, VLe.refl _, trivial⟩, hq_sub .slnil .slnil, rfl, rfl⟩

theorem ref03_extends_ok (a0 : Node) (r : Bool) (h : PL.ref03_extends a0 = some r) :
    VCalls Tryd.prog 29 [.agg (Node.l a0)] (hq [] []) (fun v H => .bool r = v ∧ H = hq [] []) := by
  revert h
  refine (PL.ref03_extends.l0.mutual_partial_correctness (motive_1 := fun a0 i_0 o => ∀ (Q : Exit → Env → HH → Prop) (ob_1 : Nat) (hx0 : Sum.inl () = o → Q (.exit 1) ⟨[(1, .ptr ob_1 0)], []⟩ (hq ([[(ob_1, .cells (Node.l a0))]]) [])) (hx1 : Sum.inr () = o → Q .ret ⟨[(2, .bool true)], []⟩ (hq [] [])), VW Tryd.prog 48 (codeAt [1, 0, 1, 0, 1, 0, 1, 0, 0] (bodyOf Tryd.f29)) (thenQ (VL Tryd.prog 48 (codeAt [1, 0, 1, 0, 1, 0, 1, 0, 0] (bodyOf Tryd.f29)) Q) Q) ⟨[(1, .ptr ob_1 0), (3, .i i_0)], []⟩ (hq ([[(ob_1, .cells (Node.l a0))]]) [])) (motive_2 := fun a0 r => VCalls Tryd.prog 29 [.agg (Node.l a0)] (hq [] []) (fun v H => .bool r = v ∧ H = hq [] [])) (motive_3 := fun a0 i_2 o => ∀ (Q : Exit → Env → HH → Prop) (ob_1 : Nat) (hx0 : Sum.inl () = o → Q (.exit 3) ⟨[], []⟩ (hq [] [])) (hx1 : Sum.inr () = o → Q .ret ⟨[(2, .bool false)], []⟩ (hq [] [])), VW Tryd.prog 48 (codeAt [1, 0, 1, 0, 1, 1, 1, 0, 0, 1, 0, 0] (bodyOf Tryd.f29)) (thenQ (VL Tryd.prog 48 (codeAt [1, 0, 1, 0, 1, 1, 1, 0, 0, 1, 0, 0] (bodyOf Tryd.f29)) Q) Q) ⟨[(1, .ptr ob_1 0), (4, .i i_2)], []⟩ (hq ([[(ob_1, .cells (Node.l a0))]]) [])) ?_ ?_ ?_).2.1 a0 r
  · intro _ _ ih_ref03_extends_l0 ih_ref03_extends a0 i_0 o h Q ob_1 hx0 hx1
    refine VW.seq (VW.q (VO.m rfl rfl (VO.t (v := .ptr ob_1 3) (t_fieldAddr_ptr rfl fi24_3 rfl rfl) rfl rfl (VO.r (v := .sl .fz (a0.Kids.map Node.c)) (r_load_q (i := 0) rfl sz22 rfl rfl rfl) rfl rfl (VO.t (v := .i (a0.Kids.length : Int)) (t_len rfl ⟨_, Tryd.underlying22⟩ rfl (by rw [List.length_map])) rfl rfl (VO.t (v := .bool (decide (i_0 < (a0.Kids.length : Int)))) (t_cmp rfl rfl rfl rfl rfl) rfl rfl (VO.n (VW.k3 1 3 13 rfl ?_))))))))
    refine VW.cond (b := (decide (i_0 < (a0.Kids.length : Int)))) rfl (fun hc_3 => ?_) (fun hc_3 => ?_)
    · replace h := iteT h hc_3
      refine VW.skip (thenQ_normal (VW.k2 1 3 rfl (VW.seq (VW.block (VW.q (VO.t (v := .ptr ob_1 3) (t_fieldAddr_ptr rfl fi24_3 rfl rfl) rfl rfl (VO.r (v := .sl .fz (a0.Kids.map Node.c)) (r_load_q (i := 0) rfl sz22 rfl rfl rfl) rfl rfl (VO.m rfl rfl ?_))))))))
      obtain ⟨c_4, hc_4, h⟩ := obind h
      refine VO.t (v := .vptr (Node.l c_4)) (t_indexAddr rfl sl22 rfl rfl (getI_some hc_4).1 (map_get (getI_some hc_4).2 (Node.c_eq c_4)) rfl) rfl rfl (VO.r (v := .agg (Node.l c_4)) (r_load_v rfl sz24 rfl rfl) rfl rfl ?_)
      obtain ⟨rv_5, hx_6, h⟩ := obind h
      refine VO.k (w_keep rfl fn29 rfl ⟨_, _, rfl, rfl, rfl⟩ (ih_ref03_extends _ _ hx_6)) rfl rfl (VO.n (VW.k3 1 3 21 rfl ?_))
      refine VW.cond (b := rv_5) rfl (fun hc_7 => ?_) (fun hc_7 => ?_)
      · replace h := iteT h hc_7
        refine VW.q (VO.a (v := .bool true) rfl (fun _ _ => rfl) (VO.n (VW.k1 2 rfl (VW.hsub (A := hq [] []) (hq_sub (.cons _ .slnil) .slnil) (VW.k1 2 rfl (VW.ret (blockQ_ret (thenQ_ret (thenQ_ret ?_)))))))))
        obtain rfl := oi h
        exact hx1  rfl
      · replace h := iteF h hc_7
        refine VW.skip (blockQ_normal (thenQ_normal (VW.k2 1 3 rfl (VW.region (VO.m rfl rfl (VO.t (v := .i (w64 (i_0 + 1))) (t_add rfl rfl (fun _ _ => rfl) rfl) rfl rfl (VO.a (v := .i (w64 (i_0 + 1))) rfl rfl (VO.nil (thenQ_normal (VL.round ?_))))))))))
        refine VW.k2 1 3 rfl ?_
        exact ih_ref03_extends_l0 _ _ _ h _ ob_1 hx0 hx1
    · replace h := iteF h hc_3
      refine VW.k1 1 rfl (VW.exit (thenQ_exit (thenQ_exit ?_)))
      obtain rfl := oi h
      exact hx0  rfl
  · intro _ _ _ ih_ref03_extends_l0 ih_ref03_extends ih_ref03_extends_l1 a0 r h 
    refine VCalls.of_body 48 [2] Tryd.func29 rfl rfl rfl (nle rfl) (VW.k1 0 rfl (VW.q (VO.w (fun v H' => ∃ ob_1, .ptr ob_1 0 = v ∧ H' = hq ([[(ob_1, .cells (Node.l a0))]]) []) (w_box_q rfl rfl rfl (fun ob => ⟨ob, rfl, rfl⟩)) rfl rfl ?_)))
    rintro _ _ ⟨ob_1, rfl, rfl⟩
    refine VO.a (v := .bool false) rfl (fun _ _ => rfl) (VO.n (VW.k1 1 rfl (VW.seq (VW.q (VO.t (v := .ptr ob_1 0) (t_fieldAddr_ptr rfl fi24_0 rfl rfl) rfl rfl (VO.r (v := .i a0.Op) (r_load_q (i := 0) rfl sz3 rfl rfl rfl) rfl rfl (VO.n (VW.k2 1 6 rfl ?_))))))))
    obtain ⟨o_8, h, hx_9⟩ := obind h
    refine VW.joinQ (E := Unit) (I := fun _ => Sum.inl () = o_8 ∧ True) (env' := fun _ => ⟨[(1, .ptr ob_1 0)], []⟩) (H' := fun _ => hq ([[(ob_1, .cells (Node.l a0))]]) []) ?_ (fun J_10 => ?_)
    · rintro _ ⟨ho_, _⟩
      subst ho_
      replace h := hx_9
      clear hx_9
      try dsimp only at h
      show VW _ _ _ _ ⟨[(1, .ptr ob_1 0)], []⟩ (hq ([[(ob_1, .cells (Node.l a0))]]) [])
      refine VW.q (VO.t (v := .ptr ob_1 0) (t_fieldAddr_ptr rfl fi24_0 rfl rfl) rfl rfl (VO.r (v := .i a0.Op) (r_load_q (i := 0) rfl sz3 rfl rfl rfl) rfl rfl (VO.t (v := .bool (a0.Op == 5)) (t_cmp rfl rfl rfl (fun _ _ => rfl) rfl) rfl rfl (VO.a (v := .bool (a0.Op == 5)) rfl rfl (VO.n (VW.ret ?_))))))
      cases oi h
      exact ret0 rfl rfl ⟨rfl, rfl⟩
    · refine VW.block (VW.q (VO.t (v := .bool (a0.Op == 1)) (t_cmp rfl rfl rfl (fun _ _ => rfl) rfl) rfl rfl (VO.a (v := .bool (a0.Op == 1)) rfl rfl (VO.n (VW.k3 1 6 7 rfl ?_)))))
      refine VW.cond (b := (a0.Op == 1)) rfl (fun hc_11 => ?_) (fun hc_11 => ?_)
      · replace h := iteT h hc_11
        refine VW.q (VO.a (v := .i 0) rfl (fun _ _ => rfl) (VO.n (VW.k2 1 3 rfl (VW.block (VW.k2 1 3 rfl ?_)))))
        obtain ⟨o_12, hx_13, h⟩ := obind h
        refine VW.loopL (ih_ref03_extends_l0 _ _ _ hx_13 _ ob_1 ?_ ?_)
        · intro ho_
          subst ho_
          try dsimp only at h
          refine blockQ_hit (blockQ_normal ?_)
          exact thenQ_normal (J_10 () ⟨Option.some.inj h, trivial⟩)
        · intro ho_
          subst ho_
          try dsimp only at h
          refine blockQ_ret (blockQ_ret ?_)
          obtain ⟨z_14, hz_15, h⟩ := obind h
          obtain rfl := oi h
          try dsimp only at hx_9
          have hx_9 := Option.some.inj hx_9
          subst hx_9
          have h := hz_15
          refine thenQ_ret ?_
          obtain rfl := oi h
          exact ⟨.inr rfl, rfl, _, .bool true, hq [] [], rfl, VLe.refl _, hq_sub .slnil .slnil, rfl, rfl⟩
      · replace h := iteF h hc_11
        refine VW.q (VO.t (v := .bool (a0.Op == 2)) (t_cmp rfl rfl rfl (fun _ _ => rfl) rfl) rfl rfl (VO.a (v := .bool (a0.Op == 2)) rfl rfl (VO.n (VW.k3 1 6 22 rfl ?_))))
        refine VW.cond (b := (a0.Op == 2)) rfl (fun hc_16 => ?_) (fun hc_16 => ?_)
        · replace h := iteT h hc_16
          refine VW.seq (VW.q (VO.a (v := .i 0) rfl (fun _ _ => rfl) (VO.n (VW.k2 1 4 rfl (VW.block (VW.k2 1 4 rfl ?_))))))
          obtain ⟨o_17, hx_18, h⟩ := obind h
          refine VW.loopL (ih_ref03_extends_l1 _ _ _ hx_18 _ ob_1 ?_ ?_)
          · intro ho_
            subst ho_
            try dsimp only at h
            refine blockQ_hit (thenQ_normal (VW.q (VO.a (v := .bool true) rfl (fun _ _ => rfl) (VO.n (VW.ret (blockQ_ret ?_))))))
            obtain ⟨z_19, hz_20, h⟩ := obind h
            obtain rfl := oi h
            try dsimp only at hx_9
            have hx_9 := Option.some.inj hx_9
            subst hx_9
            have h := hz_20
            refine thenQ_ret ?_
            obtain rfl := oi h
            exact ⟨.inr rfl, rfl, _, .bool true, hq [] [], rfl, VLe.refl _, hq_sub .slnil .slnil, rfl, rfl⟩
          · intro ho_
            subst ho_
            try dsimp only at h
            refine blockQ_ret (thenQ_ret (blockQ_ret ?_))
            obtain ⟨z_21, hz_22, h⟩ := obind h
            obtain rfl := oi h
            try dsimp only at hx_9
            have hx_9 := Option.some.inj hx_9
            subst hx_9
            have h := hz_22
            refine thenQ_ret ?_
            obtain rfl := oi h
            exact ⟨.inr rfl, rfl, _, .bool false, hq [] [], rfl, VLe.refl _, hq_sub .slnil .slnil, rfl, rfl⟩
        · replace h := iteF h hc_16
          refine VW.q (VO.t (v := .bool (a0.Op == 3)) (t_cmp rfl rfl rfl (fun _ _ => rfl) rfl) rfl rfl (VO.a (v := .bool (a0.Op == 3)) rfl rfl (VO.n (VW.k2 1 38 rfl ?_))))
          refine VW.cond (b := (a0.Op == 3)) rfl (fun hc_23 => ?_) (fun hc_23 => ?_)
          · replace h := iteT h hc_23
            refine VW.q (VO.t (v := .ptr ob_1 3) (t_fieldAddr_ptr rfl fi24_3 rfl rfl) rfl rfl (VO.r (v := .sl .fz (a0.Kids.map Node.c)) (r_load_q (i := 0) rfl sz22 rfl rfl rfl) rfl rfl ?_))
            obtain ⟨c_24, hc_24, h⟩ := obind h
            refine VO.t (v := .vptr (Node.l c_24)) (t_indexAddr rfl sl22 rfl (fun _ _ => rfl) (getI_some hc_24).1 (map_get (getI_some hc_24).2 (Node.c_eq c_24)) rfl) rfl rfl (VO.r (v := .agg (Node.l c_24)) (r_load_v rfl sz24 rfl rfl) rfl rfl ?_)
            obtain ⟨rv_25, hx_26, h⟩ := obind h
            refine VO.k (w_keep rfl fn29 rfl ⟨_, _, rfl, rfl, rfl⟩ (ih_ref03_extends _ _ hx_26)) rfl rfl (VO.a (v := .bool rv_25) rfl rfl (VO.n (VW.k1 2 rfl (VW.hsub (A := hq [] []) (hq_sub (.cons _ .slnil) .slnil) (VW.ret (blockQ_ret ?_))))))
            obtain ⟨z_27, hz_28, h⟩ := obind h
            obtain rfl := oi h
            try dsimp only at hx_9
            have hx_9 := Option.some.inj hx_9
            subst hx_9
            have h := hz_28
            refine thenQ_ret ?_
            obtain rfl := oi h
            exact ⟨.inr rfl, rfl, _, .bool rv_25, hq [] [], rfl, VLe.refl _, hq_sub .slnil .slnil, rfl, rfl⟩
          · replace h := iteF h hc_23
            refine VW.k1 1 rfl (VW.skip (blockQ_normal ?_))
            exact thenQ_normal (J_10 () ⟨Option.some.inj h, trivial⟩)
  · intro _ _ ih_ref03_extends ih_ref03_extends_l1 a0 i_2 o h Q ob_1 hx0 hx1
    refine VW.seq (VW.q (VO.m rfl rfl (VO.t (v := .ptr ob_1 3) (t_fieldAddr_ptr rfl fi24_3 rfl rfl) rfl rfl (VO.r (v := .sl .fz (a0.Kids.map Node.c)) (r_load_q (i := 0) rfl sz22 rfl rfl rfl) rfl rfl (VO.t (v := .i (a0.Kids.length : Int)) (t_len rfl ⟨_, Tryd.underlying22⟩ rfl (by rw [List.length_map])) rfl rfl (VO.t (v := .bool (decide (i_2 < (a0.Kids.length : Int)))) (t_cmp rfl rfl rfl rfl rfl) rfl rfl (VO.n (VW.k3 1 4 28 rfl ?_))))))))
    refine VW.cond (b := (decide (i_2 < (a0.Kids.length : Int)))) rfl (fun hc_29 => ?_) (fun hc_29 => ?_)
    · replace h := iteT h hc_29
      refine VW.skip (thenQ_normal (VW.k2 1 4 rfl (VW.seq (VW.block (VW.q (VO.t (v := .ptr ob_1 3) (t_fieldAddr_ptr rfl fi24_3 rfl rfl) rfl rfl (VO.r (v := .sl .fz (a0.Kids.map Node.c)) (r_load_q (i := 0) rfl sz22 rfl rfl rfl) rfl rfl (VO.m rfl rfl ?_))))))))
      obtain ⟨c_30, hc_30, h⟩ := obind h
      refine VO.t (v := .vptr (Node.l c_30)) (t_indexAddr rfl sl22 rfl rfl (getI_some hc_30).1 (map_get (getI_some hc_30).2 (Node.c_eq c_30)) rfl) rfl rfl (VO.r (v := .agg (Node.l c_30)) (r_load_v rfl sz24 rfl rfl) rfl rfl ?_)
      obtain ⟨rv_31, hx_32, h⟩ := obind h
      refine VO.k (w_keep rfl fn29 rfl ⟨_, _, rfl, rfl, rfl⟩ (ih_ref03_extends _ _ hx_32)) rfl rfl (VO.t (v := .bool (!rv_31)) (t_not rfl rfl rfl) rfl rfl (VO.n (VW.k3 1 4 37 rfl ?_)))
      refine VW.cond (b := (!rv_31)) rfl (fun hc_33 => ?_) (fun hc_33 => ?_)
      · replace h := iteT h hc_33
        refine VW.q (VO.a (v := .bool false) rfl (fun _ _ => rfl) (VO.n (VW.k1 2 rfl (VW.hsub (A := hq [] []) (hq_sub (.cons _ .slnil) .slnil) (VW.k1 2 rfl (VW.ret (blockQ_ret (thenQ_ret (thenQ_ret ?_)))))))))
        obtain rfl := oi h
        exact hx1  rfl
      · replace h := iteF h hc_33
        refine VW.skip (blockQ_normal (thenQ_normal (VW.k2 1 4 rfl (VW.region (VO.m rfl rfl (VO.t (v := .i (w64 (i_2 + 1))) (t_add rfl rfl (fun _ _ => rfl) rfl) rfl rfl (VO.a (v := .i (w64 (i_2 + 1))) rfl rfl (VO.nil (thenQ_normal (VL.round ?_))))))))))
        refine VW.k2 1 4 rfl ?_
        exact ih_ref03_extends_l1 _ _ _ h _ ob_1 hx0 hx1
    · replace h := iteF h hc_29
      refine VW.subN (t' := []) trivial rfl (VW.hsub (A := hq [] []) (hq_sub (.cons _ .slnil) .slnil) (VW.exit (thenQ_exit (thenQ_exit ?_))))
      obtain rfl := oi h
      exact hx0  rfl

theorem ref03_Extends_ok (a0 : Node) (r : Bool × Int) (h : PL.ref03_Extends a0 = some r) :
    VCalls Tryd.prog 11 [.agg (Node.l a0)] (hq [] []) (fun v H => .tup [.bool r.1, .i r.2] = v ∧ H = hq [] []) := by
  unfold PL.ref03_Extends at h
  refine VCalls.of_body 12 [2, 3] Tryd.func11 rfl rfl rfl (nle rfl) (VW.k1 0 rfl (VW.q (VO.w (fun v H' => ∃ ob_0, .ptr ob_0 0 = v ∧ H' = hq ([[(ob_0, .cells (Node.l a0))]]) []) (w_box_q rfl rfl rfl (fun ob => ⟨ob, rfl, rfl⟩)) rfl rfl ?_)))
  rintro _ _ ⟨ob_0, rfl, rfl⟩
  refine VO.a (v := .bool false) rfl (fun _ _ => rfl) (VO.a (v := .i 0) rfl (fun _ _ => rfl) (VO.n (VW.k1 1 rfl (VW.seq (VW.q (VO.r (v := .agg (Node.l a0)) (r_load_q (i := 0) rfl sz24 rfl rfl rfl) rfl rfl ?_))))))
  obtain ⟨rv_1, hx_2, h⟩ := obind h
  refine VO.k (w_keep rfl fn25 rfl ⟨_, _, rfl, rfl, rfl⟩ (ref03_Check_ok _ _ hx_2)) rfl rfl (VO.a (v := .i rv_1) rfl rfl (VO.n (VW.k2 1 4 rfl (VW.q (VO.m rfl rfl (VO.t (v := .bool (rv_1 != 0)) (t_cmp rfl rfl rfl (fun _ _ => rfl) rfl) rfl rfl (VO.n (VW.k3 1 4 8 rfl ?_))))))))
  refine VW.cond (b := (rv_1 != 0)) rfl (fun hc_3 => ?_) (fun hc_3 => ?_)
  · replace h := iteT h hc_3
    refine VW.q (VO.m rfl rfl (VO.a (v := .bool false) rfl (fun _ _ => rfl) (VO.a (v := .i rv_1) rfl rfl (VO.n (VW.k2 2 3 rfl (VW.hsub (A := hq [] []) (hq_sub (.cons _ .slnil) .slnil) (VW.ret (thenQ_ret ?_))))))))
    obtain rfl := oi h
    exact ⟨.inr rfl, rfl, _, .tup [.bool false, .i rv_1], hq [] [], ⟨_, _, rfl, rfl, rfl⟩, VLe.tup ⟨VLe.refl _, VLe.refl _, trivial⟩, hq_sub .slnil .slnil, rfl, rfl⟩
  · replace h := iteF h hc_3
    refine VW.skip (thenQ_normal (VW.k1 1 rfl (VW.q (VO.r (v := .agg (Node.l a0)) (r_load_q (i := 0) rfl sz24 rfl rfl rfl) rfl rfl ?_))))
    obtain ⟨rv_4, hx_5, h⟩ := obind h
    refine VO.k (w_keep rfl fn29 rfl ⟨_, _, rfl, rfl, rfl⟩ (ref03_extends_ok _ _ hx_5)) rfl rfl (VO.a (v := .bool rv_4) rfl rfl (VO.a (v := .i 0) rfl (fun _ _ => rfl) (VO.n (VW.k2 2 3 rfl (VW.hsub (A := hq [] []) (hq_sub (.cons _ .slnil) .slnil) (VW.ret ?_))))))
    obtain rfl := oi h
    exact ⟨.inr rfl, rfl, _, .tup [.bool rv_4, .i 0], hq [] [], ⟨_, _, rfl, rfl, rfl⟩, VLe.tup ⟨VLe.refl _, VLe.refl _, trivial⟩, hq_sub .slnil .slnil, rfl, rfl⟩

theorem set_root_ok (a0 : Node) (r : Node) (h : PL.set_root a0 = some r) :
    VCalls Tryd.prog 30 [.agg (Node.l a0)] (hq [] []) (fun v H => .agg (Node.l r) = v ∧ H = hq [] []) := by
  revert h
  refine (PL.set_root.l0.mutual_partial_correctness (motive_1 := fun a0 kids_0 x_1 o => ∀ (Q : Exit → Env → HH → Prop) (ob_2 : Nat) (ob_3 : Nat) (tk_4 : Tok) (hg_5 : Tok.grow tk_4 4 (kids_0.map Node.c)) (hx0 : ∀ (kids_6 : List Node) (tk_7 : Tok), kids_6 = o → Tok.grow tk_7 4 (kids_6.map Node.c) → Q (.exit 0) ⟨[(1, .ptr ob_2 0), (2, .ptr ob_3 0), (3, .sl tk_7 (kids_6.map Node.c))], []⟩ (hq ([[(ob_2, .cells (Node.l a0))], [(ob_3, .cells [.i 0, .i 0, .i 0, .sl .nl []])]]) ([tk_7]))), VW Tryd.prog 30 (codeAt [1, 1, 1, 0, 1, 0, 0] (bodyOf Tryd.f30)) (thenQ (VL Tryd.prog 30 (codeAt [1, 1, 1, 0, 1, 0, 0] (bodyOf Tryd.f30)) Q) Q) ⟨[(1, .ptr ob_2 0), (2, .ptr ob_3 0), (3, .sl tk_4 (kids_0.map Node.c)), (15, .sl .fz (a0.Kids.map Node.c)), (16, .i (a0.Kids.length : Int)), (17, .i x_1)], []⟩ (hq ([[(ob_2, .cells (Node.l a0))], [(ob_3, .cells [.i 0, .i 0, .i 0, .sl .nl []])]]) ([tk_4]))) (motive_2 := fun a0 r => VCalls Tryd.prog 30 [.agg (Node.l a0)] (hq [] []) (fun v H => .agg (Node.l r) = v ∧ H = hq [] [])) ?_ ?_).2 a0 r
  · intro _ _ ih_set_root_l0 ih_set_root a0 kids_0 x_1 o h Q ob_2 ob_3 tk_4 hg_5 hx0
    refine VW.q (VO.t (v := .bool (decide (x_1 < (a0.Kids.length : Int)))) (t_cmp rfl rfl rfl rfl rfl) rfl rfl (VO.n (VW.seq ?_)))
    refine VW.cond (b := (decide (x_1 < (a0.Kids.length : Int)))) rfl (fun hc_8 => ?_) (fun hc_8 => ?_)
    · replace h := iteT h hc_8
      refine VW.skip (thenQ_normal (VW.k6 1 2 3 15 16 17 rfl (VW.seq (VW.block (VW.q ?_)))))
      obtain ⟨c_9, hc_9, h⟩ := obind h
      refine VO.t (v := .vptr (Node.l c_9)) (t_indexAddr rfl sl27 rfl rfl (getI_some hc_9).1 (map_get (getI_some hc_9).2 (Node.c_eq c_9)) rfl) rfl rfl (VO.r (v := .agg (Node.l c_9)) (r_load_v rfl sz29 rfl rfl) rfl rfl (VO.w (fun v H' => ∃ ob_10, .ptr ob_10 0 = v ∧ H' = hq ([[(ob_10, .cells [.i 0, .i 0, .i 0, .sl .nl []])], [(ob_2, .cells (Node.l a0))], [(ob_3, .cells [.i 0, .i 0, .i 0, .sl .nl []])]]) ([tk_4])) (w_alloc_q rfl zt29 (fun ob => ⟨ob, rfl, rfl⟩)) rfl rfl ?_))
      rintro _ _ ⟨ob_10, rfl, rfl⟩
      refine VO.w (fun v H' => .any = v ∧ H' = hq ([[(ob_10, .cells (Node.l c_9))], [(ob_2, .cells (Node.l a0))], [(ob_3, .cells [.i 0, .i 0, .i 0, .sl .nl []])]]) ([tk_4])) (w_store_q (i := 0) rfl sz29 rfl rfl rfl rfl rfl (nle rfl) ⟨rfl, rfl⟩) rfl rfl ?_
      rintro _ _ ⟨rfl, rfl⟩
      refine VO.n (VW.k7 1 2 3 15 16 17 5 rfl (VW.region (VO.m rfl rfl (VO.r (v := .agg (Node.l c_9)) (r_load_q (i := 0) rfl sz29 rfl rfl rfl) rfl rfl ?_))))
      obtain ⟨rv_11, hx_12, h⟩ := obind h
      refine VO.k (w_keep rfl fn30 rfl ⟨_, _, rfl, rfl, rfl⟩ (ih_set_root _ _ hx_12)) rfl rfl (VO.w (fun v H' => ∃ t_13, .sl (.cap t_13 4) (([rv_11]).map Node.c) = v ∧ H' = hq ([[(ob_10, .cells (Node.l c_9))], [(ob_2, .cells (Node.l a0))], [(ob_3, .cells [.i 0, .i 0, .i 0, .sl .nl []])]]) ([.cap t_13 4, tk_4])) (w_buildSlice (l := [(Node.l rv_11)]) rfl el27 ⟨rfl, _, _, rfl, rfl, rfl, rfl, rfl⟩ rfl (nle rfl) (fun tk => ⟨tk, by simp only [List.map_cons, List.map_nil, Node.c_eq], rfl⟩)) rfl rfl ?_)
      rintro _ _ ⟨t_13, rfl, rfl⟩
      obtain ⟨_, hr_14, h⟩ := obind h
      refine VO.w (fun v H' => ∃ t_15, .sl (.cap t_15 4) ((kids_0 ++ ([rv_11])).map Node.c) = v ∧ H' = hq ([[(ob_10, .cells (Node.l c_9))], [(ob_2, .cells (Node.l a0))], [(ob_3, .cells [.i 0, .i 0, .i 0, .sl .nl []])]]) ([.cap t_15 4, .cap t_13 4])) (w_append (objs := List.flatten [[(ob_10, .cells (Node.l c_9))], [(ob_2, .cells (Node.l a0))], [(ob_3, .cells [.i 0, .i 0, .i 0, .sl .nl []])]]) (tks := [.cap t_13 4, tk_4]) (i := 1) rfl el27 rfl rfl hg_5 rfl (elemsOK_map Node.c_ok _) (by have := room_some hr_14; simpa using this) (nle rfl) (fun t => ⟨t, by simp only [List.map_append, List.map_nil, List.nil_append], rfl⟩)) rfl rfl ?_
      rintro _ _ ⟨t_15, rfl, rfl⟩
      refine VO.a (v := .sl (.cap t_15 4) ((kids_0 ++ ([rv_11])).map Node.c)) rfl rfl (VO.nil (blockQ_normal (thenQ_normal (VW.k6 1 2 15 16 17 3 rfl (VW.hsub (A := hq ([[(ob_2, .cells (Node.l a0))], [(ob_3, .cells [.i 0, .i 0, .i 0, .sl .nl []])]]) ([.cap t_15 4])) (hq_sub (.cons _ (.cons_cons _ (.cons_cons _ .slnil))) (.cons_cons _ (.cons _ .slnil))) (VW.region (VO.t (v := .i (w64 (x_1 + 1))) (t_add rfl rfl (fun _ _ => rfl) rfl) rfl rfl (VO.m rfl rfl (VO.nil ?_)))))))))
      refine thenQ_normal (VL.round ?_)
      refine VW.k6 1 2 3 15 16 17 rfl ?_
      exact ih_set_root_l0 _ _ _ _ h _ ob_2 ob_3 (.cap t_15 4) (.inr ⟨_, rfl⟩) hx0
    · replace h := iteF h hc_8
      refine VW.k3 1 2 3 rfl (VW.exit (thenQ_exit (thenQ_exit ?_)))
      obtain rfl := oi h
      exact hx0 _ tk_4 rfl hg_5
  · intro _ _ ih_set_root_l0 ih_set_root a0 r h 
    refine VCalls.of_cell 30 2 29 Tryd.func30 rfl rfl rfl (nle rfl) (VW.k1 0 rfl (VW.q (VO.w (fun v H' => ∃ ob_2, .ptr ob_2 0 = v ∧ H' = hq ([[(ob_2, .cells (Node.l a0))]]) []) (w_box_q rfl rfl rfl (fun ob => ⟨ob, rfl, rfl⟩)) rfl rfl ?_)))
    rintro _ _ ⟨ob_2, rfl, rfl⟩
    refine VO.w (fun v H' => ∃ ob_3, .ptr ob_3 0 = v ∧ H' = hq ([[(ob_3, .cells [.i 0, .i 0, .i 0, .sl .nl []])], [(ob_2, .cells (Node.l a0))]]) []) (w_alloc_q rfl zt29 (fun ob => ⟨ob, rfl, rfl⟩)) rfl rfl ?_
    rintro _ _ ⟨ob_3, rfl, rfl⟩
    refine VO.n (VW.k2 1 2 rfl (VW.seq (VW.q (VO.t (v := .ptr ob_2 0) (t_fieldAddr_ptr rfl fi29_0 rfl rfl) rfl rfl (VO.r (v := .i a0.Op) (r_load_q (i := 1) rfl sz3 rfl rfl rfl) rfl rfl (VO.t (v := .bool (a0.Op == 5)) (t_cmp rfl rfl rfl (fun _ _ => rfl) rfl) rfl rfl (VO.n (VW.k3 1 2 8 rfl ?_))))))))
    refine VW.cond (b := (a0.Op == 5)) rfl (fun hc_16 => ?_) (fun hc_16 => ?_)
    · replace h := iteT h hc_16
      refine VW.q (VO.t (v := .ptr ob_2 3) (t_fieldAddr_ptr rfl fi29_3 rfl rfl) rfl rfl (VO.r (v := .sl .fz (a0.Kids.map Node.c)) (r_load_q (i := 1) rfl sz27 rfl rfl rfl) rfl rfl ?_))
      obtain ⟨c_17, hc_17, h⟩ := obind h
      refine VO.t (v := .vptr (Node.l c_17)) (t_indexAddr rfl sl27 rfl (fun _ _ => rfl) (getI_some hc_17).1 (map_get (getI_some hc_17).2 (Node.c_eq c_17)) rfl) rfl rfl (VO.r (v := .agg (Node.l c_17)) (r_load_v rfl sz29 rfl rfl) rfl rfl ?_)
      obtain ⟨rv_18, hx_19, h⟩ := obind h
      refine VO.k (w_keep rfl fn30 rfl ⟨_, _, rfl, rfl, rfl⟩ (ih_set_root _ _ hx_19)) rfl rfl (VO.w (fun v H' => .any = v ∧ H' = hq ([[(ob_3, .cells (Node.l rv_18))], [(ob_2, .cells (Node.l a0))]]) []) (w_store_q (i := 0) rfl sz29 rfl rfl rfl rfl rfl (nle rfl) ⟨rfl, rfl⟩) rfl rfl ?_)
      rintro _ _ ⟨rfl, rfl⟩
      refine VO.n (VW.k1 2 rfl (VW.hsub (A := hq ([[(ob_3, .cells (Node.l rv_18))]]) []) (hq_sub (.cons_cons _ (.cons _ .slnil)) .slnil) (VW.ret (thenQ_ret ?_))))
      obtain rfl := oi h
      exact ⟨.inr rfl, rfl, _, _, 0, _, _, _, _, .agg (Node.l rv_18), hq [] [], rfl, rfl, sz29, rfl, VLe.refl _, hq_sub (.cons _ .slnil) .slnil, rfl, rfl⟩
    · replace h := iteF h hc_16
      refine VW.skip (thenQ_normal (VW.k2 1 2 rfl (VW.q (VO.a (v := .sl .nl []) rfl (fun _ _ => .inl ⟨rfl, .inl rfl⟩) (VO.n (VW.seq (VW.q (VO.t (v := .ptr ob_2 3) (t_fieldAddr_ptr rfl fi29_3 rfl rfl) rfl rfl (VO.r (v := .sl .fz (a0.Kids.map Node.c)) (r_load_q (i := 1) rfl sz27 rfl rfl rfl) rfl rfl ?_)))))))))
      refine VO.t (v := .i (a0.Kids.length : Int)) (t_len rfl ⟨_, Tryd.underlying27⟩ rfl (by rw [List.length_map])) rfl rfl (VO.m (v := .i 0) rfl (fun _ _ => rfl) (VO.n (VW.k6 1 2 3 15 16 17 rfl (VW.block (VW.k6 1 2 3 15 16 17 rfl (VW.frontS 0 rfl (VW.frontS 1 rfl (VW.eqv (A := hq ([[(ob_2, .cells (Node.l a0))], [(ob_3, .cells [.i 0, .i 0, .i 0, .sl .nl []])]]) ([.nl])) (.refl _) ?_))))))))
      obtain ⟨o_20, hx_21, h⟩ := obind h
      refine VW.loopL (ih_set_root_l0 _ _ _ _ hx_21 _ ob_2 ob_3 .nl (.inl ⟨rfl, rfl⟩) ?_)
      · intro kids_6 tk_7 ho_ hg_22
        subst ho_
        try dsimp only at h
        refine blockQ_hit (thenQ_normal (VW.q (VO.m rfl rfl (VO.t (v := .ptr ob_2 3) (t_fieldAddr_ptr rfl fi29_3 rfl rfl) rfl rfl (VO.w (fun v H' => .any = v ∧ H' = hq ([[(ob_2, .cells [.i a0.Op, .i a0.Lo, .i a0.Hi, .sl tk_7 (kids_6.map Node.c)])], [(ob_3, .cells [.i 0, .i 0, .i 0, .sl .nl []])]]) ([tk_7])) (w_store_q (i := 0) rfl sz27 rfl rfl rfl rfl rfl (nle rfl) ⟨rfl, rfl⟩) rfl rfl ?_)))))
        rintro _ _ ⟨rfl, rfl⟩
        refine VO.n (VW.k2 1 2 rfl (VW.q (VO.r (v := .agg [.i a0.Op, .i a0.Lo, .i a0.Hi, .sl tk_7 (kids_6.map Node.c)]) (r_load_q (i := 0) rfl sz29 rfl rfl rfl) rfl rfl (VO.w (fun v H' => .any = v ∧ H' = hq ([[(ob_2, .cells [.i a0.Op, .i a0.Lo, .i a0.Hi, .sl tk_7 (kids_6.map Node.c)])], [(ob_3, .cells [.i a0.Op, .i a0.Lo, .i a0.Hi, .sl tk_7 (kids_6.map Node.c)])]]) ([tk_7])) (w_store_q (i := 1) rfl sz29 rfl rfl rfl rfl rfl (nle rfl) ⟨rfl, rfl⟩) rfl rfl ?_))))
        rintro _ _ ⟨rfl, rfl⟩
        refine VO.n (VW.k1 2 rfl (VW.hsub (A := hq ([[(ob_3, .cells [.i a0.Op, .i a0.Lo, .i a0.Hi, .sl tk_7 (kids_6.map Node.c)])]]) ([tk_7])) (hq_sub (.cons _ (.cons_cons _ .slnil)) (.cons_cons _ .slnil)) (VW.ret ?_)))
        obtain rfl := oi h
        exact ⟨.inr rfl, rfl, _, _, 0, _, _, _, _, .agg [.i ((Node.mk a0.Op a0.Lo a0.Hi kids_6).Op), .i ((Node.mk a0.Op a0.Lo a0.Hi kids_6).Lo), .i ((Node.mk a0.Op a0.Lo a0.Hi kids_6).Hi), .sl .fz (((Node.mk a0.Op a0.Lo a0.Hi kids_6).Kids).map Node.c)], hq [] [], rfl, rfl, sz29, rfl, VLe.agg ⟨VLe.refl _, VLe.refl _, VLe.refl _, VLe.sl _ _, trivial⟩, hq_sub (.cons _ .slnil) (.cons _ .slnil), rfl, rfl⟩

theorem set_Root_ok (a0 : Node) (r : Node × Int) (h : PL.set_Root a0 = some r) :
    VCalls Tryd.prog 12 [.agg (Node.l a0)] (hq [] []) (fun v H => .tup [.agg (Node.l r.1), .i r.2] = v ∧ H = hq [] []) := by
  unfold PL.set_Root at h
  refine VCalls.of_cell2 13 2 29 3 Tryd.func12 rfl rfl rfl (nle rfl) (VW.k1 0 rfl (VW.q (VO.w (fun v H' => ∃ ob_0, .ptr ob_0 0 = v ∧ H' = hq ([[(ob_0, .cells (Node.l a0))]]) []) (w_box_q rfl rfl rfl (fun ob => ⟨ob, rfl, rfl⟩)) rfl rfl ?_)))
  rintro _ _ ⟨ob_0, rfl, rfl⟩
  refine VO.w (fun v H' => ∃ ob_1, .ptr ob_1 0 = v ∧ H' = hq ([[(ob_1, .cells [.i 0, .i 0, .i 0, .sl .nl []])], [(ob_0, .cells (Node.l a0))]]) []) (w_alloc_q rfl zt29 (fun ob => ⟨ob, rfl, rfl⟩)) rfl rfl ?_
  rintro _ _ ⟨ob_1, rfl, rfl⟩
  refine VO.a (v := .i 0) rfl (fun _ _ => rfl) (VO.n (VW.k2 1 2 rfl (VW.seq (VW.q (VO.r (v := .agg (Node.l a0)) (r_load_q (i := 1) rfl sz29 rfl rfl rfl) rfl rfl ?_)))))
  obtain ⟨rv_2, hx_3, h⟩ := obind h
  refine VO.k (w_keep rfl fn22 rfl ⟨_, _, rfl, rfl, rfl⟩ (set_check_ok _ _ hx_3)) rfl rfl (VO.a (v := .i rv_2) rfl rfl (VO.n (VW.k3 1 2 4 rfl (VW.q (VO.m rfl rfl (VO.t (v := .bool (rv_2 != 0)) (t_cmp rfl rfl rfl (fun _ _ => rfl) rfl) rfl rfl (VO.n (VW.k4 1 2 4 8 rfl ?_))))))))
  refine VW.cond (b := (rv_2 != 0)) rfl (fun hc_4 => ?_) (fun hc_4 => ?_)
  · replace h := iteT h hc_4
    refine VW.q (VO.t (v := .agg [.i 0, .i 0, .i 0, .sl .nl []]) (t_build rfl st29 rfl rfl) rfl rfl (VO.m rfl rfl (VO.w (fun v H' => .any = v ∧ H' = hq ([[(ob_1, .cells [.i 0, .i 0, .i 0, .sl .nl []])], [(ob_0, .cells (Node.l a0))]]) []) (w_store_q (i := 0) rfl sz29 rfl rfl rfl rfl rfl (nle rfl) ⟨rfl, rfl⟩) rfl rfl ?_)))
    rintro _ _ ⟨rfl, rfl⟩
    refine VO.a (v := .i rv_2) rfl rfl (VO.n (VW.k2 2 3 rfl (VW.hsub (A := hq ([[(ob_1, .cells [.i 0, .i 0, .i 0, .sl .nl []])]]) []) (hq_sub (.cons_cons _ (.cons _ .slnil)) .slnil) (VW.ret (thenQ_ret ?_)))))
    obtain rfl := oi h
    exact ⟨.inr rfl, rfl, _, _, 0, _, _, _, _, _, .tup [.agg [.i ((Node.mk 0 0 0 []).Op), .i ((Node.mk 0 0 0 []).Lo), .i ((Node.mk 0 0 0 []).Hi), .sl .fz (((Node.mk 0 0 0 []).Kids).map Node.c)], .i rv_2], hq [] [], rfl, rfl, sz29, rfl, rfl, VLe.tup ⟨VLe.agg ⟨VLe.refl _, VLe.refl _, VLe.refl _, VLe.sl _ _, trivial⟩, VLe.refl _, trivial⟩, hq_sub (.cons _ .slnil) .slnil, rfl, rfl⟩
  · replace h := iteF h hc_4
    refine VW.skip (thenQ_normal (VW.k2 1 2 rfl (VW.q (VO.r (v := .agg (Node.l a0)) (r_load_q (i := 1) rfl sz29 rfl rfl rfl) rfl rfl ?_))))
    obtain ⟨rv_5, hx_6, h⟩ := obind h
    refine VO.k (w_keep rfl fn30 rfl ⟨_, _, rfl, rfl, rfl⟩ (set_root_ok _ _ hx_6)) rfl rfl (VO.w (fun v H' => .any = v ∧ H' = hq ([[(ob_1, .cells (Node.l rv_5))], [(ob_0, .cells (Node.l a0))]]) []) (w_store_q (i := 0) rfl sz29 rfl rfl rfl rfl rfl (nle rfl) ⟨rfl, rfl⟩) rfl rfl ?_)
    rintro _ _ ⟨rfl, rfl⟩
    refine VO.a (v := .i 0) rfl (fun _ _ => rfl) (VO.n (VW.k2 2 3 rfl (VW.hsub (A := hq ([[(ob_1, .cells (Node.l rv_5))]]) []) (hq_sub (.cons_cons _ (.cons _ .slnil)) .slnil) (VW.ret ?_))))
    obtain rfl := oi h
    exact ⟨.inr rfl, rfl, _, _, 0, _, _, _, _, _, .tup [.agg (Node.l rv_5), .i 0], hq [] [], rfl, rfl, sz29, rfl, rfl, VLe.tup ⟨VLe.refl _, VLe.refl _, trivial⟩, hq_sub (.cons _ .slnil) .slnil, rfl, rfl⟩

theorem ref03_root_ok (a0 : Node) (r : Node) (h : PL.ref03_root a0 = some r) :
    VCalls Tryd.prog 31 [.agg (Node.l a0)] (hq [] []) (fun v H => .agg (Node.l r) = v ∧ H = hq [] []) := by
  revert h
  refine (PL.ref03_root.l0.mutual_partial_correctness (motive_1 := fun a0 c_0 i_1 o => ∀ (Q : Exit → Env → HH → Prop) (ob_2 : Nat) (ob_3 : Nat) (ob_4 : Nat) (tk_5 : Tok) (hg_6 : Tok.grow tk_5 4 (c_0.map Node.c)) (hx0 : ∀ (c_7 : List Node) (tk_8 : Tok), c_7 = o → Tok.grow tk_8 4 (c_7.map Node.c) → Q (.exit 0) ⟨[(2, .ptr ob_3 0), (3, .ptr ob_4 0)], []⟩ (hq ([[(ob_3, .cells [.i 0, .i 0, .i 0, .sl .nl []])], [(ob_4, .cells [.i a0.Op, .i a0.Lo, .i a0.Hi, .sl tk_8 (c_7.map Node.c)])]]) ([tk_8]))), VW Tryd.prog 39 (codeAt [1, 1, 1, 0, 1, 0, 0] (bodyOf Tryd.f31)) (thenQ (VL Tryd.prog 39 (codeAt [1, 1, 1, 0, 1, 0, 0] (bodyOf Tryd.f31)) Q) Q) ⟨[(1, .ptr ob_2 0), (2, .ptr ob_3 0), (3, .ptr ob_4 0), (4, .i i_1)], []⟩ (hq ([[(ob_2, .cells (Node.l a0))], [(ob_3, .cells [.i 0, .i 0, .i 0, .sl .nl []])], [(ob_4, .cells [.i a0.Op, .i a0.Lo, .i a0.Hi, .sl tk_5 (c_0.map Node.c)])]]) ([tk_5]))) (motive_2 := fun a0 r => VCalls Tryd.prog 31 [.agg (Node.l a0)] (hq [] []) (fun v H => .agg (Node.l r) = v ∧ H = hq [] [])) ?_ ?_).2 a0 r
  · intro _ _ ih_ref03_root_l0 ih_ref03_root a0 c_0 i_1 o h Q ob_2 ob_3 ob_4 tk_5 hg_6 hx0
    refine VW.seq (VW.q (VO.m rfl rfl (VO.t (v := .ptr ob_2 3) (t_fieldAddr_ptr rfl fi24_3 rfl rfl) rfl rfl (VO.r (v := .sl .fz (a0.Kids.map Node.c)) (r_load_q (i := 0) rfl sz22 rfl rfl rfl) rfl rfl (VO.t (v := .i (a0.Kids.length : Int)) (t_len rfl ⟨_, Tryd.underlying22⟩ rfl (by rw [List.length_map])) rfl rfl (VO.t (v := .bool (decide (i_1 < (a0.Kids.length : Int)))) (t_cmp rfl rfl rfl rfl rfl) rfl rfl (VO.n (VW.k5 1 2 3 4 24 rfl ?_))))))))
    refine VW.cond (b := (decide (i_1 < (a0.Kids.length : Int)))) rfl (fun hc_9 => ?_) (fun hc_9 => ?_)
    · replace h := iteT h hc_9
      refine VW.skip (thenQ_normal (VW.k4 1 2 3 4 rfl (VW.seq (VW.block (VW.draw 12 mix rfl (VA.t (i := 0) (v := .ptr ob_4 3) rfl (t_fieldAddr_ptr rfl fi24_3 rfl rfl) (.inl rfl) (by kernel_rfl) (VA.t (i := 2) (v := .ptr ob_2 3) rfl (t_fieldAddr_ptr rfl fi24_3 rfl rfl) (.inl rfl) (by kernel_rfl) (VA.t (i := 4) rfl (t_move rfl rfl) (.inl rfl) (by kernel_rfl) ?_))))))))
      refine VA.alt [1, 3] (by kernel_rfl) rfl ⟨?_, ?_, trivial⟩
      · refine VA1.r (i := 1) (v := .sl tk_5 (c_0.map Node.c)) rfl (r_load_q (i := 2) rfl sz22 rfl rfl rfl) (.inl rfl) rfl (VA.phase (g := 5) [3, 5, 6] 3 (VP.take (i := 3) (v := .sl .fz (a0.Kids.map Node.c)) rfl (r_load_q (i := 0) rfl sz22 rfl rfl rfl) (.inl rfl) (by kernel_rfl) ?_))
        obtain ⟨c_10, hc_10, h⟩ := obind h
        refine VP.take (i := 5) (v := .vptr (Node.l c_10)) rfl (TOp.r (t_indexAddr rfl sl22 rfl rfl (getI_some hc_10).1 (map_get (getI_some hc_10).2 (Node.c_eq c_10)) rfl)) (.inl rfl) (by kernel_rfl) (VP.take (i := 6) (v := .agg (Node.l c_10)) rfl (r_load_v rfl sz24 rfl rfl) (.inl rfl) (by kernel_rfl) (VP.done (by kernel_rfl) ?_))
        obtain ⟨rv_11, hx_12, h⟩ := obind h
        refine VA.k (i := 7) rfl (w_keep rfl fn31 rfl ⟨_, _, rfl, rfl, rfl⟩ (ih_ref03_root _ _ hx_12)) (.inl rfl) (by kernel_rfl) rfl (VA.w (i := 8) (fun v H' => ∃ t_13, .sl (.cap t_13 4) (([rv_11]).map Node.c) = v ∧ H' = hq ([[(ob_2, .cells (Node.l a0))], [(ob_3, .cells [.i 0, .i 0, .i 0, .sl .nl []])], [(ob_4, .cells [.i a0.Op, .i a0.Lo, .i a0.Hi, .sl tk_5 (c_0.map Node.c)])]]) ([.cap t_13 4, tk_5])) rfl (w_buildSlice (l := [(Node.l rv_11)]) rfl el22 ⟨rfl, _, _, rfl, rfl, rfl, rfl, rfl⟩ rfl (nle rfl) (fun tk => ⟨tk, by simp only [List.map_cons, List.map_nil, Node.c_eq], rfl⟩)) (.inl rfl) (by kernel_rfl) rfl ?_)
        rintro _ _ ⟨t_13, rfl, rfl⟩
        obtain ⟨_, hr_14, h⟩ := obind h
        refine VA.w (i := 9) (fun v H' => ∃ t_15, .sl (.cap t_15 4) ((c_0 ++ ([rv_11])).map Node.c) = v ∧ H' = hq ([[(ob_2, .cells (Node.l a0))], [(ob_3, .cells [.i 0, .i 0, .i 0, .sl .nl []])], [(ob_4, .cells [.i a0.Op, .i a0.Lo, .i a0.Hi, .sl tk_5 (c_0.map Node.c)])]]) ([.cap t_15 4, .cap t_13 4])) rfl (w_append (objs := List.flatten [[(ob_2, .cells (Node.l a0))], [(ob_3, .cells [.i 0, .i 0, .i 0, .sl .nl []])], [(ob_4, .cells [.i a0.Op, .i a0.Lo, .i a0.Hi, .sl tk_5 (c_0.map Node.c)])]]) (tks := [.cap t_13 4, tk_5]) (i := 1) rfl el22 rfl rfl hg_6 rfl (elemsOK_map Node.c_ok _) (by have := room_some hr_14; simpa using this) (nle rfl) (fun t => ⟨t, by simp only [List.map_append, List.map_nil, List.nil_append], rfl⟩)) (.inl rfl) (by kernel_rfl) rfl ?_
        rintro _ _ ⟨t_15, rfl, rfl⟩
        refine VA.t (i := 10) (v := .ptr ob_4 3) rfl (t_fieldAddr_ptr rfl fi24_3 rfl rfl) (.inl rfl) (by kernel_rfl) (VA.w (i := 11) (fun v H' => .any = v ∧ H' = hq ([[(ob_2, .cells (Node.l a0))], [(ob_3, .cells [.i 0, .i 0, .i 0, .sl .nl []])], [(ob_4, .cells [.i a0.Op, .i a0.Lo, .i a0.Hi, .sl (.cap t_15 4) ((c_0 ++ ([rv_11])).map Node.c)])]]) ([.cap t_15 4, .cap t_13 4])) rfl (w_store_q (i := 2) rfl sz22 rfl rfl rfl rfl rfl (nle rfl) ⟨rfl, rfl⟩) (.inl rfl) (by kernel_rfl) rfl ?_)
        rintro _ _ ⟨rfl, rfl⟩
        refine VA.done (by kernel_rfl) (blockQ_normal (thenQ_normal (VW.k4 1 2 3 4 rfl (VW.hsub (A := hq ([[(ob_2, .cells (Node.l a0))], [(ob_3, .cells [.i 0, .i 0, .i 0, .sl .nl []])], [(ob_4, .cells [.i a0.Op, .i a0.Lo, .i a0.Hi, .sl (.cap t_15 4) ((c_0 ++ ([rv_11])).map Node.c)])]]) ([.cap t_15 4])) (hq_sub (.cons_cons _ (.cons_cons _ (.cons_cons _ .slnil))) (.cons_cons _ (.cons _ .slnil))) (VW.region (VO.m rfl rfl (VO.t (v := .i (w64 (i_1 + 1))) (t_add rfl rfl (fun _ _ => rfl) rfl) rfl rfl (VO.a (v := .i (w64 (i_1 + 1))) rfl rfl (VO.nil ?_)))))))))
        refine thenQ_normal (VL.round ?_)
        refine VW.k4 1 2 3 4 rfl ?_
        exact ih_ref03_root_l0 _ _ _ _ h _ ob_2 ob_3 ob_4 (.cap t_15 4) (.inr ⟨_, rfl⟩) hx0
      · refine VA1.r (i := 3) (v := .sl .fz (a0.Kids.map Node.c)) rfl (r_load_q (i := 0) rfl sz22 rfl rfl rfl) (.inl rfl) rfl ?_
        obtain ⟨c_16, hc_16, h⟩ := obind h
        refine VA.t (i := 5) (v := .vptr (Node.l c_16)) rfl (t_indexAddr rfl sl22 rfl rfl (getI_some hc_16).1 (map_get (getI_some hc_16).2 (Node.c_eq c_16)) rfl) (.inl rfl) (by kernel_rfl) ?_
        refine VA.alt [1, 6] (by kernel_rfl) rfl ⟨?_, ?_, trivial⟩
        · refine VA1.r (i := 1) (v := .sl tk_5 (c_0.map Node.c)) rfl (r_load_q (i := 2) rfl sz22 rfl rfl rfl) (.inl rfl) rfl (VA.phase (g := 5) [6] 1 (VP.take (i := 6) (v := .agg (Node.l c_16)) rfl (r_load_v rfl sz24 rfl rfl) (.inl rfl) (by kernel_rfl) (VP.done (by kernel_rfl) ?_)))
          obtain ⟨rv_17, hx_18, h⟩ := obind h
          refine VA.k (i := 7) rfl (w_keep rfl fn31 rfl ⟨_, _, rfl, rfl, rfl⟩ (ih_ref03_root _ _ hx_18)) (.inl rfl) (by kernel_rfl) rfl (VA.w (i := 8) (fun v H' => ∃ t_19, .sl (.cap t_19 4) (([rv_17]).map Node.c) = v ∧ H' = hq ([[(ob_2, .cells (Node.l a0))], [(ob_3, .cells [.i 0, .i 0, .i 0, .sl .nl []])], [(ob_4, .cells [.i a0.Op, .i a0.Lo, .i a0.Hi, .sl tk_5 (c_0.map Node.c)])]]) ([.cap t_19 4, tk_5])) rfl (w_buildSlice (l := [(Node.l rv_17)]) rfl el22 ⟨rfl, _, _, rfl, rfl, rfl, rfl, rfl⟩ rfl (nle rfl) (fun tk => ⟨tk, by simp only [List.map_cons, List.map_nil, Node.c_eq], rfl⟩)) (.inl rfl) (by kernel_rfl) rfl ?_)
          rintro _ _ ⟨t_19, rfl, rfl⟩
          obtain ⟨_, hr_20, h⟩ := obind h
          refine VA.w (i := 9) (fun v H' => ∃ t_21, .sl (.cap t_21 4) ((c_0 ++ ([rv_17])).map Node.c) = v ∧ H' = hq ([[(ob_2, .cells (Node.l a0))], [(ob_3, .cells [.i 0, .i 0, .i 0, .sl .nl []])], [(ob_4, .cells [.i a0.Op, .i a0.Lo, .i a0.Hi, .sl tk_5 (c_0.map Node.c)])]]) ([.cap t_21 4, .cap t_19 4])) rfl (w_append (objs := List.flatten [[(ob_2, .cells (Node.l a0))], [(ob_3, .cells [.i 0, .i 0, .i 0, .sl .nl []])], [(ob_4, .cells [.i a0.Op, .i a0.Lo, .i a0.Hi, .sl tk_5 (c_0.map Node.c)])]]) (tks := [.cap t_19 4, tk_5]) (i := 1) rfl el22 rfl rfl hg_6 rfl (elemsOK_map Node.c_ok _) (by have := room_some hr_20; simpa using this) (nle rfl) (fun t => ⟨t, by simp only [List.map_append, List.map_nil, List.nil_append], rfl⟩)) (.inl rfl) (by kernel_rfl) rfl ?_
          rintro _ _ ⟨t_21, rfl, rfl⟩
          refine VA.t (i := 10) (v := .ptr ob_4 3) rfl (t_fieldAddr_ptr rfl fi24_3 rfl rfl) (.inl rfl) (by kernel_rfl) (VA.w (i := 11) (fun v H' => .any = v ∧ H' = hq ([[(ob_2, .cells (Node.l a0))], [(ob_3, .cells [.i 0, .i 0, .i 0, .sl .nl []])], [(ob_4, .cells [.i a0.Op, .i a0.Lo, .i a0.Hi, .sl (.cap t_21 4) ((c_0 ++ ([rv_17])).map Node.c)])]]) ([.cap t_21 4, .cap t_19 4])) rfl (w_store_q (i := 2) rfl sz22 rfl rfl rfl rfl rfl (nle rfl) ⟨rfl, rfl⟩) (.inl rfl) (by kernel_rfl) rfl ?_)
          rintro _ _ ⟨rfl, rfl⟩
          refine VA.done (by kernel_rfl) (blockQ_normal (thenQ_normal (VW.k4 1 2 3 4 rfl (VW.hsub (A := hq ([[(ob_2, .cells (Node.l a0))], [(ob_3, .cells [.i 0, .i 0, .i 0, .sl .nl []])], [(ob_4, .cells [.i a0.Op, .i a0.Lo, .i a0.Hi, .sl (.cap t_21 4) ((c_0 ++ ([rv_17])).map Node.c)])]]) ([.cap t_21 4])) (hq_sub (.cons_cons _ (.cons_cons _ (.cons_cons _ .slnil))) (.cons_cons _ (.cons _ .slnil))) (VW.region (VO.m rfl rfl (VO.t (v := .i (w64 (i_1 + 1))) (t_add rfl rfl (fun _ _ => rfl) rfl) rfl rfl (VO.a (v := .i (w64 (i_1 + 1))) rfl rfl (VO.nil ?_)))))))))
          refine thenQ_normal (VL.round ?_)
          refine VW.k4 1 2 3 4 rfl ?_
          exact ih_ref03_root_l0 _ _ _ _ h _ ob_2 ob_3 ob_4 (.cap t_21 4) (.inr ⟨_, rfl⟩) hx0
        · refine VA1.r (i := 6) (v := .agg (Node.l c_16)) rfl (r_load_v rfl sz24 rfl rfl) (.inl rfl) rfl ?_
          refine VA.alt [1, 7] (by kernel_rfl) rfl ⟨?_, ?_, trivial⟩
          · refine VA1.r (i := 1) (v := .sl tk_5 (c_0.map Node.c)) rfl (r_load_q (i := 2) rfl sz22 rfl rfl rfl) (.inl rfl) rfl ?_
            obtain ⟨rv_22, hx_23, h⟩ := obind h
            refine VA.k (i := 7) rfl (w_keep rfl fn31 rfl ⟨_, _, rfl, rfl, rfl⟩ (ih_ref03_root _ _ hx_23)) (.inl rfl) (by kernel_rfl) rfl (VA.w (i := 8) (fun v H' => ∃ t_24, .sl (.cap t_24 4) (([rv_22]).map Node.c) = v ∧ H' = hq ([[(ob_2, .cells (Node.l a0))], [(ob_3, .cells [.i 0, .i 0, .i 0, .sl .nl []])], [(ob_4, .cells [.i a0.Op, .i a0.Lo, .i a0.Hi, .sl tk_5 (c_0.map Node.c)])]]) ([.cap t_24 4, tk_5])) rfl (w_buildSlice (l := [(Node.l rv_22)]) rfl el22 ⟨rfl, _, _, rfl, rfl, rfl, rfl, rfl⟩ rfl (nle rfl) (fun tk => ⟨tk, by simp only [List.map_cons, List.map_nil, Node.c_eq], rfl⟩)) (.inl rfl) (by kernel_rfl) rfl ?_)
            rintro _ _ ⟨t_24, rfl, rfl⟩
            obtain ⟨_, hr_25, h⟩ := obind h
            refine VA.w (i := 9) (fun v H' => ∃ t_26, .sl (.cap t_26 4) ((c_0 ++ ([rv_22])).map Node.c) = v ∧ H' = hq ([[(ob_2, .cells (Node.l a0))], [(ob_3, .cells [.i 0, .i 0, .i 0, .sl .nl []])], [(ob_4, .cells [.i a0.Op, .i a0.Lo, .i a0.Hi, .sl tk_5 (c_0.map Node.c)])]]) ([.cap t_26 4, .cap t_24 4])) rfl (w_append (objs := List.flatten [[(ob_2, .cells (Node.l a0))], [(ob_3, .cells [.i 0, .i 0, .i 0, .sl .nl []])], [(ob_4, .cells [.i a0.Op, .i a0.Lo, .i a0.Hi, .sl tk_5 (c_0.map Node.c)])]]) (tks := [.cap t_24 4, tk_5]) (i := 1) rfl el22 rfl rfl hg_6 rfl (elemsOK_map Node.c_ok _) (by have := room_some hr_25; simpa using this) (nle rfl) (fun t => ⟨t, by simp only [List.map_append, List.map_nil, List.nil_append], rfl⟩)) (.inl rfl) (by kernel_rfl) rfl ?_
            rintro _ _ ⟨t_26, rfl, rfl⟩
            refine VA.t (i := 10) (v := .ptr ob_4 3) rfl (t_fieldAddr_ptr rfl fi24_3 rfl rfl) (.inl rfl) (by kernel_rfl) (VA.w (i := 11) (fun v H' => .any = v ∧ H' = hq ([[(ob_2, .cells (Node.l a0))], [(ob_3, .cells [.i 0, .i 0, .i 0, .sl .nl []])], [(ob_4, .cells [.i a0.Op, .i a0.Lo, .i a0.Hi, .sl (.cap t_26 4) ((c_0 ++ ([rv_22])).map Node.c)])]]) ([.cap t_26 4, .cap t_24 4])) rfl (w_store_q (i := 2) rfl sz22 rfl rfl rfl rfl rfl (nle rfl) ⟨rfl, rfl⟩) (.inl rfl) (by kernel_rfl) rfl ?_)
            rintro _ _ ⟨rfl, rfl⟩
            refine VA.done (by kernel_rfl) (blockQ_normal (thenQ_normal (VW.k4 1 2 3 4 rfl (VW.hsub (A := hq ([[(ob_2, .cells (Node.l a0))], [(ob_3, .cells [.i 0, .i 0, .i 0, .sl .nl []])], [(ob_4, .cells [.i a0.Op, .i a0.Lo, .i a0.Hi, .sl (.cap t_26 4) ((c_0 ++ ([rv_22])).map Node.c)])]]) ([.cap t_26 4])) (hq_sub (.cons_cons _ (.cons_cons _ (.cons_cons _ .slnil))) (.cons_cons _ (.cons _ .slnil))) (VW.region (VO.m rfl rfl (VO.t (v := .i (w64 (i_1 + 1))) (t_add rfl rfl (fun _ _ => rfl) rfl) rfl rfl (VO.a (v := .i (w64 (i_1 + 1))) rfl rfl (VO.nil ?_)))))))))
            refine thenQ_normal (VL.round ?_)
            refine VW.k4 1 2 3 4 rfl ?_
            exact ih_ref03_root_l0 _ _ _ _ h _ ob_2 ob_3 ob_4 (.cap t_26 4) (.inr ⟨_, rfl⟩) hx0
          · obtain ⟨rv_27, hx_28, h⟩ := obind h
            refine VA1.k (i := 7) rfl (w_keep rfl fn31 rfl ⟨_, _, rfl, rfl, rfl⟩ (ih_ref03_root _ _ hx_28)) (.inl rfl) rfl ?_
            refine VA.alt [1, 8] (by kernel_rfl) rfl ⟨?_, ?_, trivial⟩
            · refine VA1.r (i := 1) (v := .sl tk_5 (c_0.map Node.c)) rfl (r_load_q (i := 2) rfl sz22 rfl rfl rfl) (.inl rfl) rfl (VA.w (i := 8) (fun v H' => ∃ t_29, .sl (.cap t_29 4) (([rv_27]).map Node.c) = v ∧ H' = hq ([[(ob_2, .cells (Node.l a0))], [(ob_3, .cells [.i 0, .i 0, .i 0, .sl .nl []])], [(ob_4, .cells [.i a0.Op, .i a0.Lo, .i a0.Hi, .sl tk_5 (c_0.map Node.c)])]]) ([.cap t_29 4, tk_5])) rfl (w_buildSlice (l := [(Node.l rv_27)]) rfl el22 ⟨rfl, _, _, rfl, rfl, rfl, rfl, rfl⟩ rfl (nle rfl) (fun tk => ⟨tk, by simp only [List.map_cons, List.map_nil, Node.c_eq], rfl⟩)) (.inl rfl) (by kernel_rfl) rfl ?_)
              rintro _ _ ⟨t_29, rfl, rfl⟩
              obtain ⟨_, hr_30, h⟩ := obind h
              refine VA.w (i := 9) (fun v H' => ∃ t_31, .sl (.cap t_31 4) ((c_0 ++ ([rv_27])).map Node.c) = v ∧ H' = hq ([[(ob_2, .cells (Node.l a0))], [(ob_3, .cells [.i 0, .i 0, .i 0, .sl .nl []])], [(ob_4, .cells [.i a0.Op, .i a0.Lo, .i a0.Hi, .sl tk_5 (c_0.map Node.c)])]]) ([.cap t_31 4, .cap t_29 4])) rfl (w_append (objs := List.flatten [[(ob_2, .cells (Node.l a0))], [(ob_3, .cells [.i 0, .i 0, .i 0, .sl .nl []])], [(ob_4, .cells [.i a0.Op, .i a0.Lo, .i a0.Hi, .sl tk_5 (c_0.map Node.c)])]]) (tks := [.cap t_29 4, tk_5]) (i := 1) rfl el22 rfl rfl hg_6 rfl (elemsOK_map Node.c_ok _) (by have := room_some hr_30; simpa using this) (nle rfl) (fun t => ⟨t, by simp only [List.map_append, List.map_nil, List.nil_append], rfl⟩)) (.inl rfl) (by kernel_rfl) rfl ?_
              rintro _ _ ⟨t_31, rfl, rfl⟩
              refine VA.t (i := 10) (v := .ptr ob_4 3) rfl (t_fieldAddr_ptr rfl fi24_3 rfl rfl) (.inl rfl) (by kernel_rfl) (VA.w (i := 11) (fun v H' => .any = v ∧ H' = hq ([[(ob_2, .cells (Node.l a0))], [(ob_3, .cells [.i 0, .i 0, .i 0, .sl .nl []])], [(ob_4, .cells [.i a0.Op, .i a0.Lo, .i a0.Hi, .sl (.cap t_31 4) ((c_0 ++ ([rv_27])).map Node.c)])]]) ([.cap t_31 4, .cap t_29 4])) rfl (w_store_q (i := 2) rfl sz22 rfl rfl rfl rfl rfl (nle rfl) ⟨rfl, rfl⟩) (.inl rfl) (by kernel_rfl) rfl ?_)
              rintro _ _ ⟨rfl, rfl⟩
              refine VA.done (by kernel_rfl) (blockQ_normal (thenQ_normal (VW.k4 1 2 3 4 rfl (VW.hsub (A := hq ([[(ob_2, .cells (Node.l a0))], [(ob_3, .cells [.i 0, .i 0, .i 0, .sl .nl []])], [(ob_4, .cells [.i a0.Op, .i a0.Lo, .i a0.Hi, .sl (.cap t_31 4) ((c_0 ++ ([rv_27])).map Node.c)])]]) ([.cap t_31 4])) (hq_sub (.cons_cons _ (.cons_cons _ (.cons_cons _ .slnil))) (.cons_cons _ (.cons _ .slnil))) (VW.region (VO.m rfl rfl (VO.t (v := .i (w64 (i_1 + 1))) (t_add rfl rfl (fun _ _ => rfl) rfl) rfl rfl (VO.a (v := .i (w64 (i_1 + 1))) rfl rfl (VO.nil ?_)))))))))
              refine thenQ_normal (VL.round ?_)
              refine VW.k4 1 2 3 4 rfl ?_
              exact ih_ref03_root_l0 _ _ _ _ h _ ob_2 ob_3 ob_4 (.cap t_31 4) (.inr ⟨_, rfl⟩) hx0
            · refine VA1.w (i := 8) (fun v H' => ∃ t_32, .sl (.cap t_32 4) (([rv_27]).map Node.c) = v ∧ H' = hq ([[(ob_2, .cells (Node.l a0))], [(ob_3, .cells [.i 0, .i 0, .i 0, .sl .nl []])], [(ob_4, .cells [.i a0.Op, .i a0.Lo, .i a0.Hi, .sl tk_5 (c_0.map Node.c)])]]) ([.cap t_32 4, tk_5])) rfl (w_buildSlice (l := [(Node.l rv_27)]) rfl el22 ⟨rfl, _, _, rfl, rfl, rfl, rfl, rfl⟩ rfl (nle rfl) (fun tk => ⟨tk, by simp only [List.map_cons, List.map_nil, Node.c_eq], rfl⟩)) (.inl rfl) rfl ?_
              rintro _ _ ⟨t_32, rfl, rfl⟩
              refine VA.phase (g := 3) [1] 1 (VP.take (i := 1) (v := .sl tk_5 (c_0.map Node.c)) rfl (r_load_q (i := 2) rfl sz22 rfl rfl rfl) (.inl rfl) (by kernel_rfl) (VP.done (by kernel_rfl) ?_))
              obtain ⟨_, hr_33, h⟩ := obind h
              refine VA.w (i := 9) (fun v H' => ∃ t_34, .sl (.cap t_34 4) ((c_0 ++ ([rv_27])).map Node.c) = v ∧ H' = hq ([[(ob_2, .cells (Node.l a0))], [(ob_3, .cells [.i 0, .i 0, .i 0, .sl .nl []])], [(ob_4, .cells [.i a0.Op, .i a0.Lo, .i a0.Hi, .sl tk_5 (c_0.map Node.c)])]]) ([.cap t_34 4, .cap t_32 4])) rfl (w_append (objs := List.flatten [[(ob_2, .cells (Node.l a0))], [(ob_3, .cells [.i 0, .i 0, .i 0, .sl .nl []])], [(ob_4, .cells [.i a0.Op, .i a0.Lo, .i a0.Hi, .sl tk_5 (c_0.map Node.c)])]]) (tks := [.cap t_32 4, tk_5]) (i := 1) rfl el22 rfl rfl hg_6 rfl (elemsOK_map Node.c_ok _) (by have := room_some hr_33; simpa using this) (nle rfl) (fun t => ⟨t, by simp only [List.map_append, List.map_nil, List.nil_append], rfl⟩)) (.inl rfl) (by kernel_rfl) rfl ?_
              rintro _ _ ⟨t_34, rfl, rfl⟩
              refine VA.t (i := 10) (v := .ptr ob_4 3) rfl (t_fieldAddr_ptr rfl fi24_3 rfl rfl) (.inl rfl) (by kernel_rfl) (VA.w (i := 11) (fun v H' => .any = v ∧ H' = hq ([[(ob_2, .cells (Node.l a0))], [(ob_3, .cells [.i 0, .i 0, .i 0, .sl .nl []])], [(ob_4, .cells [.i a0.Op, .i a0.Lo, .i a0.Hi, .sl (.cap t_34 4) ((c_0 ++ ([rv_27])).map Node.c)])]]) ([.cap t_34 4, .cap t_32 4])) rfl (w_store_q (i := 2) rfl sz22 rfl rfl rfl rfl rfl (nle rfl) ⟨rfl, rfl⟩) (.inl rfl) (by kernel_rfl) rfl ?_)
              rintro _ _ ⟨rfl, rfl⟩
              refine VA.done (by kernel_rfl) (blockQ_normal (thenQ_normal (VW.k4 1 2 3 4 rfl (VW.hsub (A := hq ([[(ob_2, .cells (Node.l a0))], [(ob_3, .cells [.i 0, .i 0, .i 0, .sl .nl []])], [(ob_4, .cells [.i a0.Op, .i a0.Lo, .i a0.Hi, .sl (.cap t_34 4) ((c_0 ++ ([rv_27])).map Node.c)])]]) ([.cap t_34 4])) (hq_sub (.cons_cons _ (.cons_cons _ (.cons_cons _ .slnil))) (.cons_cons _ (.cons _ .slnil))) (VW.region (VO.m rfl rfl (VO.t (v := .i (w64 (i_1 + 1))) (t_add rfl rfl (fun _ _ => rfl) rfl) rfl rfl (VO.a (v := .i (w64 (i_1 + 1))) rfl rfl (VO.nil ?_)))))))))
              refine thenQ_normal (VL.round ?_)
              refine VW.k4 1 2 3 4 rfl ?_
              exact ih_ref03_root_l0 _ _ _ _ h _ ob_2 ob_3 ob_4 (.cap t_34 4) (.inr ⟨_, rfl⟩) hx0
    · replace h := iteF h hc_9
      refine VW.k2 2 3 rfl (VW.frontS 2 rfl (VW.frontS 2 rfl (VW.hsub (A := hq ([[(ob_3, .cells [.i 0, .i 0, .i 0, .sl .nl []])], [(ob_4, .cells [.i a0.Op, .i a0.Lo, .i a0.Hi, .sl tk_5 (c_0.map Node.c)])]]) ([tk_5])) (hq_sub (.cons_cons _ (.cons_cons _ (.cons _ .slnil))) (.cons_cons _ .slnil)) (VW.exit (thenQ_exit (thenQ_exit ?_))))))
      obtain rfl := oi h
      exact hx0 _ tk_5 rfl hg_6
  · intro _ _ ih_ref03_root_l0 ih_ref03_root a0 r h 
    refine VCalls.of_cell 39 2 24 Tryd.func31 rfl rfl rfl (nle rfl) (VW.k1 0 rfl (VW.q (VO.w (fun v H' => ∃ ob_2, .ptr ob_2 0 = v ∧ H' = hq ([[(ob_2, .cells (Node.l a0))]]) []) (w_box_q rfl rfl rfl (fun ob => ⟨ob, rfl, rfl⟩)) rfl rfl ?_)))
    rintro _ _ ⟨ob_2, rfl, rfl⟩
    refine VO.w (fun v H' => ∃ ob_3, .ptr ob_3 0 = v ∧ H' = hq ([[(ob_3, .cells [.i 0, .i 0, .i 0, .sl .nl []])], [(ob_2, .cells (Node.l a0))]]) []) (w_alloc_q rfl zt24 (fun ob => ⟨ob, rfl, rfl⟩)) rfl rfl ?_
    rintro _ _ ⟨ob_3, rfl, rfl⟩
    refine VO.n (VW.k2 1 2 rfl (VW.seq (VW.q (VO.t (v := .ptr ob_2 0) (t_fieldAddr_ptr rfl fi24_0 rfl rfl) rfl rfl (VO.r (v := .i a0.Op) (r_load_q (i := 1) rfl sz3 rfl rfl rfl) rfl rfl (VO.t (v := .bool (a0.Op == 5)) (t_cmp rfl rfl rfl (fun _ _ => rfl) rfl) rfl rfl (VO.n (VW.k3 1 2 7 rfl ?_))))))))
    refine VW.cond (b := (a0.Op == 5)) rfl (fun hc_35 => ?_) (fun hc_35 => ?_)
    · replace h := iteT h hc_35
      refine VW.q (VO.t (v := .ptr ob_2 3) (t_fieldAddr_ptr rfl fi24_3 rfl rfl) rfl rfl (VO.r (v := .sl .fz (a0.Kids.map Node.c)) (r_load_q (i := 1) rfl sz22 rfl rfl rfl) rfl rfl ?_))
      obtain ⟨c_36, hc_36, h⟩ := obind h
      refine VO.t (v := .vptr (Node.l c_36)) (t_indexAddr rfl sl22 rfl (fun _ _ => rfl) (getI_some hc_36).1 (map_get (getI_some hc_36).2 (Node.c_eq c_36)) rfl) rfl rfl (VO.r (v := .agg (Node.l c_36)) (r_load_v rfl sz24 rfl rfl) rfl rfl ?_)
      obtain ⟨rv_37, hx_38, h⟩ := obind h
      refine VO.k (w_keep rfl fn31 rfl ⟨_, _, rfl, rfl, rfl⟩ (ih_ref03_root _ _ hx_38)) rfl rfl (VO.w (fun v H' => .any = v ∧ H' = hq ([[(ob_3, .cells (Node.l rv_37))], [(ob_2, .cells (Node.l a0))]]) []) (w_store_q (i := 0) rfl sz24 rfl rfl rfl rfl rfl (nle rfl) ⟨rfl, rfl⟩) rfl rfl ?_)
      rintro _ _ ⟨rfl, rfl⟩
      refine VO.n (VW.k1 2 rfl (VW.hsub (A := hq ([[(ob_3, .cells (Node.l rv_37))]]) []) (hq_sub (.cons_cons _ (.cons _ .slnil)) .slnil) (VW.ret (thenQ_ret ?_))))
      obtain rfl := oi h
      exact ⟨.inr rfl, rfl, _, _, 0, _, _, _, _, .agg (Node.l rv_37), hq [] [], rfl, rfl, sz24, rfl, VLe.refl _, hq_sub (.cons _ .slnil) .slnil, rfl, rfl⟩
    · replace h := iteF h hc_35
      refine VW.skip (thenQ_normal (VW.k2 1 2 rfl (VW.q (VO.t (v := .ptr ob_2 0) (t_fieldAddr_ptr rfl fi24_0 rfl rfl) rfl rfl (VO.r (v := .i a0.Op) (r_load_q (i := 1) rfl sz3 rfl rfl rfl) rfl rfl (VO.t (v := .ptr ob_2 1) (t_fieldAddr_ptr rfl fi24_1 rfl rfl) rfl rfl (VO.r (v := .i a0.Lo) (r_load_q (i := 1) rfl sz3 rfl rfl rfl) rfl rfl (VO.t (v := .ptr ob_2 2) (t_fieldAddr_ptr rfl fi24_2 rfl rfl) rfl rfl (VO.r (v := .i a0.Hi) (r_load_q (i := 1) rfl sz3 rfl rfl rfl) rfl rfl ?_)))))))))
      refine VO.t (v := .agg [.i a0.Op, .i a0.Lo, .i a0.Hi, .sl .nl []]) (t_build rfl st24 ⟨_, _, rfl, rfl, rfl, _, _, rfl, rfl, rfl, _, _, rfl, rfl, rfl, rfl⟩ rfl) rfl rfl (VO.w (fun v H' => ∃ ob_4, .ptr ob_4 0 = v ∧ H' = hq ([[(ob_4, .cells [.i 0, .i 0, .i 0, .sl .nl []])], [(ob_3, .cells [.i 0, .i 0, .i 0, .sl .nl []])], [(ob_2, .cells (Node.l a0))]]) []) (w_alloc_q rfl zt24 (fun ob => ⟨ob, rfl, rfl⟩)) rfl rfl ?_)
      rintro _ _ ⟨ob_4, rfl, rfl⟩
      refine VO.w (fun v H' => .any = v ∧ H' = hq ([[(ob_4, .cells [.i a0.Op, .i a0.Lo, .i a0.Hi, .sl .nl []])], [(ob_3, .cells [.i 0, .i 0, .i 0, .sl .nl []])], [(ob_2, .cells (Node.l a0))]]) []) (w_store_q (i := 0) rfl sz24 rfl rfl rfl rfl rfl (nle rfl) ⟨rfl, rfl⟩) rfl rfl ?_
      rintro _ _ ⟨rfl, rfl⟩
      refine VO.n (VW.k3 1 2 3 rfl (VW.seq (VW.q (VO.a (v := .i 0) rfl (fun _ _ => rfl) (VO.n (VW.block (VW.k4 1 2 3 4 rfl (VW.frontS 0 rfl (VW.frontS 1 rfl ?_)))))))))
      refine VW.frontS 2 rfl (VW.eqv (A := hq ([[(ob_2, .cells (Node.l a0))], [(ob_3, .cells [.i 0, .i 0, .i 0, .sl .nl []])], [(ob_4, .cells [.i a0.Op, .i a0.Lo, .i a0.Hi, .sl .nl []])]]) ([.nl])) (.refl _) ?_)
      obtain ⟨o_39, hx_40, h⟩ := obind h
      refine VW.loopL (ih_ref03_root_l0 _ _ _ _ hx_40 _ ob_2 ob_3 ob_4 .nl (.inl ⟨rfl, rfl⟩) ?_)
      · intro c_7 tk_8 ho_ hg_41
        subst ho_
        try dsimp only at h
        refine blockQ_hit (thenQ_normal (VW.q (VO.r (v := .agg [.i a0.Op, .i a0.Lo, .i a0.Hi, .sl tk_8 (c_7.map Node.c)]) (r_load_q (i := 1) rfl sz24 rfl rfl rfl) rfl rfl (VO.w (fun v H' => .any = v ∧ H' = hq ([[(ob_3, .cells [.i a0.Op, .i a0.Lo, .i a0.Hi, .sl tk_8 (c_7.map Node.c)])], [(ob_4, .cells [.i a0.Op, .i a0.Lo, .i a0.Hi, .sl tk_8 (c_7.map Node.c)])]]) ([tk_8])) (w_store_q (i := 0) rfl sz24 rfl rfl rfl rfl rfl (nle rfl) ⟨rfl, rfl⟩) rfl rfl ?_))))
        rintro _ _ ⟨rfl, rfl⟩
        refine VO.n (VW.k1 2 rfl (VW.hsub (A := hq ([[(ob_3, .cells [.i a0.Op, .i a0.Lo, .i a0.Hi, .sl tk_8 (c_7.map Node.c)])]]) ([tk_8])) (hq_sub (.cons_cons _ (.cons _ .slnil)) (.cons_cons _ .slnil)) (VW.ret ?_)))
        obtain rfl := oi h
        exact ⟨.inr rfl, rfl, _, _, 0, _, _, _, _, .agg [.i ((Node.mk a0.Op a0.Lo a0.Hi c_7).Op), .i ((Node.mk a0.Op a0.Lo a0.Hi c_7).Lo), .i ((Node.mk a0.Op a0.Lo a0.Hi c_7).Hi), .sl .fz (((Node.mk a0.Op a0.Lo a0.Hi c_7).Kids).map Node.c)], hq [] [], rfl, rfl, sz24, rfl, VLe.agg ⟨VLe.refl _, VLe.refl _, VLe.refl _, VLe.sl _ _, trivial⟩, hq_sub (.cons _ .slnil) (.cons _ .slnil), rfl, rfl⟩

theorem ref03_Root_ok (a0 : Node) (r : Node × Int) (h : PL.ref03_Root a0 = some r) :
    VCalls Tryd.prog 13 [.agg (Node.l a0)] (hq [] []) (fun v H => .tup [.agg (Node.l r.1), .i r.2] = v ∧ H = hq [] []) := by
  unfold PL.ref03_Root at h
  refine VCalls.of_cell2 13 2 24 3 Tryd.func13 rfl rfl rfl (nle rfl) (VW.k1 0 rfl (VW.q (VO.w (fun v H' => ∃ ob_0, .ptr ob_0 0 = v ∧ H' = hq ([[(ob_0, .cells (Node.l a0))]]) []) (w_box_q rfl rfl rfl (fun ob => ⟨ob, rfl, rfl⟩)) rfl rfl ?_)))
  rintro _ _ ⟨ob_0, rfl, rfl⟩
  refine VO.w (fun v H' => ∃ ob_1, .ptr ob_1 0 = v ∧ H' = hq ([[(ob_1, .cells [.i 0, .i 0, .i 0, .sl .nl []])], [(ob_0, .cells (Node.l a0))]]) []) (w_alloc_q rfl zt24 (fun ob => ⟨ob, rfl, rfl⟩)) rfl rfl ?_
  rintro _ _ ⟨ob_1, rfl, rfl⟩
  refine VO.a (v := .i 0) rfl (fun _ _ => rfl) (VO.n (VW.k2 1 2 rfl (VW.seq (VW.q (VO.r (v := .agg (Node.l a0)) (r_load_q (i := 1) rfl sz24 rfl rfl rfl) rfl rfl ?_)))))
  obtain ⟨rv_2, hx_3, h⟩ := obind h
  refine VO.k (w_keep rfl fn25 rfl ⟨_, _, rfl, rfl, rfl⟩ (ref03_Check_ok _ _ hx_3)) rfl rfl (VO.a (v := .i rv_2) rfl rfl (VO.n (VW.k3 1 2 4 rfl (VW.q (VO.m rfl rfl (VO.t (v := .bool (rv_2 != 0)) (t_cmp rfl rfl rfl (fun _ _ => rfl) rfl) rfl rfl (VO.n (VW.k4 1 2 4 8 rfl ?_))))))))
  refine VW.cond (b := (rv_2 != 0)) rfl (fun hc_4 => ?_) (fun hc_4 => ?_)
  · replace h := iteT h hc_4
    refine VW.q (VO.t (v := .agg [.i 0, .i 0, .i 0, .sl .nl []]) (t_build rfl st24 rfl rfl) rfl rfl (VO.m rfl rfl (VO.w (fun v H' => .any = v ∧ H' = hq ([[(ob_1, .cells [.i 0, .i 0, .i 0, .sl .nl []])], [(ob_0, .cells (Node.l a0))]]) []) (w_store_q (i := 0) rfl sz24 rfl rfl rfl rfl rfl (nle rfl) ⟨rfl, rfl⟩) rfl rfl ?_)))
    rintro _ _ ⟨rfl, rfl⟩
    refine VO.a (v := .i rv_2) rfl rfl (VO.n (VW.k2 2 3 rfl (VW.hsub (A := hq ([[(ob_1, .cells [.i 0, .i 0, .i 0, .sl .nl []])]]) []) (hq_sub (.cons_cons _ (.cons _ .slnil)) .slnil) (VW.ret (thenQ_ret ?_)))))
    obtain rfl := oi h
    exact ⟨.inr rfl, rfl, _, _, 0, _, _, _, _, _, .tup [.agg [.i ((Node.mk 0 0 0 []).Op), .i ((Node.mk 0 0 0 []).Lo), .i ((Node.mk 0 0 0 []).Hi), .sl .fz (((Node.mk 0 0 0 []).Kids).map Node.c)], .i rv_2], hq [] [], rfl, rfl, sz24, rfl, rfl, VLe.tup ⟨VLe.agg ⟨VLe.refl _, VLe.refl _, VLe.refl _, VLe.sl _ _, trivial⟩, VLe.refl _, trivial⟩, hq_sub (.cons _ .slnil) .slnil, rfl, rfl⟩
  · replace h := iteF h hc_4
    refine VW.skip (thenQ_normal (VW.k2 1 2 rfl (VW.q (VO.r (v := .agg (Node.l a0)) (r_load_q (i := 1) rfl sz24 rfl rfl rfl) rfl rfl ?_))))
    obtain ⟨rv_5, hx_6, h⟩ := obind h
    refine VO.k (w_keep rfl fn31 rfl ⟨_, _, rfl, rfl, rfl⟩ (ref03_root_ok _ _ hx_6)) rfl rfl (VO.w (fun v H' => .any = v ∧ H' = hq ([[(ob_1, .cells (Node.l rv_5))], [(ob_0, .cells (Node.l a0))]]) []) (w_store_q (i := 0) rfl sz24 rfl rfl rfl rfl rfl (nle rfl) ⟨rfl, rfl⟩) rfl rfl ?_)
    rintro _ _ ⟨rfl, rfl⟩
    refine VO.a (v := .i 0) rfl (fun _ _ => rfl) (VO.n (VW.k2 2 3 rfl (VW.hsub (A := hq ([[(ob_1, .cells (Node.l rv_5))]]) []) (hq_sub (.cons_cons _ (.cons _ .slnil)) .slnil) (VW.ret ?_))))
    obtain rfl := oi h
    exact ⟨.inr rfl, rfl, _, _, 0, _, _, _, _, _, .tup [.agg (Node.l rv_5), .i 0], hq [] [], rfl, rfl, sz24, rfl, rfl, VLe.tup ⟨VLe.refl _, VLe.refl _, trivial⟩, hq_sub (.cons _ .slnil) .slnil, rfl, rfl⟩

theorem ref03_Same_ok (a0 : Node) (a1 : Node) (r : Bool) (h : PL.ref03_Same a0 a1 = some r) :
    VCalls Tryd.prog 14 [.agg (Node.l a0), .agg (Node.l a1)] (hq [] []) (fun v H => .bool r = v ∧ H = hq [] []) := by
  revert h
  refine (PL.ref03_Same.l0.mutual_partial_correctness (motive_1 := fun a0 a1 i_0 o => ∀ (Q : Exit → Env → HH → Prop) (ob_1 : Nat) (ob_2 : Nat) (hx0 : Sum.inl () = o → Q (.exit 0) ⟨[], []⟩ (hq [] [])) (hx1 : Sum.inr () = o → Q .ret ⟨[(4, .bool false)], []⟩ (hq [] [])), VW Tryd.prog 53 (codeAt [1, 1, 0, 1, 0, 0] (bodyOf Tryd.f14)) (thenQ (VL Tryd.prog 53 (codeAt [1, 1, 0, 1, 0, 0] (bodyOf Tryd.f14)) Q) Q) ⟨[(2, .ptr ob_1 0), (3, .ptr ob_2 0), (5, .i i_0)], []⟩ (hq ([[(ob_1, .cells (Node.l a0))], [(ob_2, .cells (Node.l a1))]]) [])) (motive_2 := fun a0 a1 r => VCalls Tryd.prog 14 [.agg (Node.l a0), .agg (Node.l a1)] (hq [] []) (fun v H => .bool r = v ∧ H = hq [] [])) ?_ ?_).2 a0 a1 r
  · intro _ _ ih_ref03_Same_l0 ih_ref03_Same a0 a1 i_0 o h Q ob_1 ob_2 hx0 hx1
    refine VW.seq (VW.q (VO.m rfl rfl (VO.t (v := .ptr ob_1 3) (t_fieldAddr_ptr rfl fi24_3 rfl rfl) rfl rfl (VO.r (v := .sl .fz (a0.Kids.map Node.c)) (r_load_q (i := 0) rfl sz22 rfl rfl rfl) rfl rfl (VO.t (v := .i (a0.Kids.length : Int)) (t_len rfl ⟨_, Tryd.underlying22⟩ rfl (by rw [List.length_map])) rfl rfl (VO.t (v := .bool (decide (i_0 < (a0.Kids.length : Int)))) (t_cmp rfl rfl rfl rfl rfl) rfl rfl (VO.n (VW.k4 2 3 5 38 rfl ?_))))))))
    refine VW.cond (b := (decide (i_0 < (a0.Kids.length : Int)))) rfl (fun hc_3 => ?_) (fun hc_3 => ?_)
    · replace h := iteT h hc_3
      refine VW.skip (thenQ_normal (VW.k3 2 3 5 rfl (VW.seq (VW.block (VW.seq (VW.draw 12 mix rfl (VA.phase (g := 2) [0, 1, 2, 3, 4, 5, 6, 7, 8, 9] 10 (VP.take (i := 0) (v := .ptr ob_1 3) rfl (TOp.r (t_fieldAddr_ptr rfl fi24_3 rfl rfl)) (.inl rfl) (by kernel_rfl) (VP.take (i := 1) (v := .sl .fz (a0.Kids.map Node.c)) rfl (r_load_q (i := 0) rfl sz22 rfl rfl rfl) (.inl rfl) (by kernel_rfl) ?_)))))))))
      refine VP.take (i := 2) rfl (TOp.r (t_move rfl rfl)) (.inl rfl) (by kernel_rfl) ?_
      obtain ⟨c_4, hc_4, h⟩ := obind h
      refine VP.take (i := 3) (v := .vptr (Node.l c_4)) rfl (TOp.r (t_indexAddr rfl sl22 rfl rfl (getI_some hc_4).1 (map_get (getI_some hc_4).2 (Node.c_eq c_4)) rfl)) (.inl rfl) (by kernel_rfl) (VP.take (i := 4) (v := .agg (Node.l c_4)) rfl (r_load_v rfl sz24 rfl rfl) (.inl rfl) (by kernel_rfl) (VP.take (i := 5) (v := .ptr ob_2 3) rfl (TOp.r (t_fieldAddr_ptr rfl fi24_3 rfl rfl)) (.inl rfl) (by kernel_rfl) (VP.take (i := 6) (v := .sl .fz (a1.Kids.map Node.c)) rfl (r_load_q (i := 1) rfl sz22 rfl rfl rfl) (.inl rfl) (by kernel_rfl) (VP.take (i := 7) rfl (TOp.r (t_move rfl rfl)) (.inl rfl) (by kernel_rfl) ?_))))
      obtain ⟨c_5, hc_5, h⟩ := obind h
      refine VP.take (i := 8) (v := .vptr (Node.l c_5)) rfl (TOp.r (t_indexAddr rfl sl22 rfl rfl (getI_some hc_5).1 (map_get (getI_some hc_5).2 (Node.c_eq c_5)) rfl)) (.inl rfl) (by kernel_rfl) (VP.take (i := 9) (v := .agg (Node.l c_5)) rfl (r_load_v rfl sz24 rfl rfl) (.inl rfl) (by kernel_rfl) (VP.done (by kernel_rfl) ?_))
      obtain ⟨rv_6, hx_7, h⟩ := obind h
      refine VA.k (i := 10) rfl (w_keep rfl fn14 rfl ⟨_, _, rfl, rfl, _, _, rfl, rfl, rfl⟩ (ih_ref03_Same _ _ _ hx_7)) (.inl rfl) (by kernel_rfl) rfl (VA.t (i := 11) (v := .bool (!rv_6)) rfl (t_not rfl rfl rfl) (.inl rfl) (by kernel_rfl) (VA.done (by kernel_rfl) (thenQ_normal (VW.k4 2 3 5 52 rfl ?_))))
      refine VW.cond (b := (!rv_6)) rfl (fun hc_8 => ?_) (fun hc_8 => ?_)
      · replace h := iteT h hc_8
        refine VW.q (VO.a (v := .bool false) rfl (fun _ _ => rfl) (VO.n (VW.k1 4 rfl (VW.hsub (A := hq [] []) (hq_sub (.cons _ (.cons _ .slnil)) .slnil) (VW.k1 4 rfl (VW.ret (blockQ_ret (thenQ_ret (thenQ_ret ?_)))))))))
        obtain rfl := oi h
        exact hx1  rfl
      · replace h := iteF h hc_8
        refine VW.skip (blockQ_normal (thenQ_normal (VW.k3 2 3 5 rfl (VW.region (VO.m rfl rfl (VO.t (v := .i (w64 (i_0 + 1))) (t_add rfl rfl (fun _ _ => rfl) rfl) rfl rfl (VO.a (v := .i (w64 (i_0 + 1))) rfl rfl (VO.nil (thenQ_normal (VL.round ?_))))))))))
        refine VW.k3 2 3 5 rfl ?_
        exact ih_ref03_Same_l0 _ _ _ _ h _ ob_1 ob_2 hx0 hx1
    · replace h := iteF h hc_3
      refine VW.subN (t' := []) trivial rfl (VW.hsub (A := hq [] []) (hq_sub (.cons _ (.cons _ .slnil)) .slnil) (VW.exit (thenQ_exit (thenQ_exit ?_))))
      obtain rfl := oi h
      exact hx0  rfl
  · intro _ ih_ref03_Same_l0 a0 a1 r h 
    refine VCalls.of_body 53 [4] Tryd.func14 rfl rfl rfl (nle rfl) (VW.k2 0 1 rfl (VW.q (VO.w (fun v H' => ∃ ob_1, .ptr ob_1 0 = v ∧ H' = hq ([[(ob_1, .cells (Node.l a0))]]) []) (w_box_q rfl rfl rfl (fun ob => ⟨ob, rfl, rfl⟩)) rfl rfl ?_)))
    rintro _ _ ⟨ob_1, rfl, rfl⟩
    refine VO.w (fun v H' => ∃ ob_2, .ptr ob_2 0 = v ∧ H' = hq ([[(ob_2, .cells (Node.l a1))], [(ob_1, .cells (Node.l a0))]]) []) (w_box_q rfl rfl rfl (fun ob => ⟨ob, rfl, rfl⟩)) rfl rfl ?_
    rintro _ _ ⟨ob_2, rfl, rfl⟩
    refine VO.a (v := .bool false) rfl (fun _ _ => rfl) (VO.n (VW.k2 2 3 rfl (VW.seq (VW.q (VO.t (v := .ptr ob_1 0) (t_fieldAddr_ptr rfl fi24_0 rfl rfl) rfl rfl (VO.r (v := .i a0.Op) (r_load_q (i := 1) rfl sz3 rfl rfl rfl) rfl rfl (VO.t (v := .ptr ob_2 0) (t_fieldAddr_ptr rfl fi24_0 rfl rfl) rfl rfl (VO.r (v := .i a1.Op) (r_load_q (i := 0) rfl sz3 rfl rfl rfl) rfl rfl (VO.t (v := .bool (a0.Op != a1.Op)) (t_cmp rfl rfl rfl rfl rfl) rfl rfl ?_)))))))))
    refine VO.m rfl rfl ?_
    refine VO.caseB (d := 11) (b := (a0.Op != a1.Op)) rfl (fun hc_9 => ?_) (fun hc_9 => ?_)
    · replace h := iteT h hc_9
      refine VO.s rfl (VO.s rfl (VO.s rfl (VO.s rfl (VO.s rfl (VO.t (v := .bool true) (t_pick (b := true) rfl rfl (fun _ => (fun _ _ => rfl)) (fun h => by cases h)) rfl rfl (VO.m rfl rfl (VO.s rfl (VO.s rfl (VO.s rfl ?_)))))))))
      refine VO.s rfl (VO.s rfl (VO.t (v := .bool true) (t_pick (b := true) rfl rfl (fun _ => (fun _ _ => rfl)) (fun h => by cases h)) rfl rfl (VO.m rfl rfl (VO.s rfl (VO.s rfl (VO.s rfl (VO.s rfl (VO.s rfl (VO.s rfl ?_)))))))))
      refine VO.s rfl (VO.t (v := .bool true) (t_pick (b := true) rfl rfl (fun _ => (fun _ _ => rfl)) (fun h => by cases h)) rfl rfl (VO.n (VW.k3 2 3 33 rfl (VW.condT rfl (VW.q (VO.a (v := .bool false) rfl (fun _ _ => rfl) (VO.n (VW.ret (thenQ_ret ?_)))))))))
      cases oi h
      exact ret0 rfl rfl ⟨rfl, rfl⟩
    · replace h := iteF h hc_9
      refine VO.gt (v := .ptr ob_1 1) (t_fieldAddr_ptr rfl fi24_1 rfl rfl) rfl rfl rfl rfl (VO.gr (v := .i a0.Lo) (r_load_q (i := 1) rfl sz3 rfl rfl rfl) rfl rfl rfl rfl (VO.gt (v := .ptr ob_2 1) (t_fieldAddr_ptr rfl fi24_1 rfl rfl) rfl rfl rfl rfl (VO.gr (v := .i a1.Lo) (r_load_q (i := 0) rfl sz3 rfl rfl rfl) rfl rfl rfl rfl (VO.gt (v := .bool (a0.Lo != a1.Lo)) (t_cmp rfl rfl rfl rfl rfl) rfl rfl rfl rfl (VO.t (v := .bool (a0.Lo != a1.Lo)) (t_pick (b := false) rfl rfl (fun h => by cases h) (fun _ => rfl)) rfl rfl (VO.m rfl rfl ?_))))))
      refine VO.caseB (d := 18) (b := (a0.Lo != a1.Lo)) rfl (fun hc_10 => ?_) (fun hc_10 => ?_)
      · replace h := iteT h hc_10
        refine VO.s rfl (VO.s rfl (VO.s rfl (VO.s rfl (VO.s rfl (VO.t (v := .bool true) (t_pick (b := true) rfl rfl (fun _ => (fun _ _ => rfl)) (fun h => by cases h)) rfl rfl (VO.m rfl rfl (VO.s rfl (VO.s rfl (VO.s rfl ?_)))))))))
        refine VO.s rfl (VO.s rfl (VO.s rfl (VO.s rfl (VO.t (v := .bool true) (t_pick (b := true) rfl rfl (fun _ => (fun _ _ => rfl)) (fun h => by cases h)) rfl rfl (VO.n (VW.k3 2 3 33 rfl (VW.condT rfl (VW.q (VO.a (v := .bool false) rfl (fun _ _ => rfl) ?_)))))))))
        refine VO.n (VW.ret (thenQ_ret ?_))
        cases oi h
        exact ret0 rfl rfl ⟨rfl, rfl⟩
      · replace h := iteF h hc_10
        refine VO.gt (v := .ptr ob_1 2) (t_fieldAddr_ptr rfl fi24_2 rfl rfl) rfl rfl rfl rfl (VO.gr (v := .i a0.Hi) (r_load_q (i := 1) rfl sz3 rfl rfl rfl) rfl rfl rfl rfl (VO.gt (v := .ptr ob_2 2) (t_fieldAddr_ptr rfl fi24_2 rfl rfl) rfl rfl rfl rfl (VO.gr (v := .i a1.Hi) (r_load_q (i := 0) rfl sz3 rfl rfl rfl) rfl rfl rfl rfl (VO.gt (v := .bool (a0.Hi != a1.Hi)) (t_cmp rfl rfl rfl rfl rfl) rfl rfl rfl rfl (VO.t (v := .bool (a0.Hi != a1.Hi)) (t_pick (b := false) rfl rfl (fun h => by cases h) (fun _ => rfl)) rfl rfl (VO.m rfl rfl ?_))))))
        refine VO.caseB (d := 25) (b := (a0.Hi != a1.Hi)) rfl (fun hc_11 => ?_) (fun hc_11 => ?_)
        · replace h := iteT h hc_11
          refine VO.s rfl (VO.s rfl (VO.s rfl (VO.s rfl (VO.s rfl (VO.s rfl (VO.s rfl (VO.t (v := .bool true) (t_pick (b := true) rfl rfl (fun _ => (fun _ _ => rfl)) (fun h => by cases h)) rfl rfl (VO.n (VW.k3 2 3 33 rfl ?_)))))))))
          refine VW.condT rfl (VW.q (VO.a (v := .bool false) rfl (fun _ _ => rfl) (VO.n (VW.ret (thenQ_ret ?_)))))
          cases oi h
          exact ret0 rfl rfl ⟨rfl, rfl⟩
        · replace h := iteF h hc_11
          refine VO.gt (v := .ptr ob_1 3) (t_fieldAddr_ptr rfl fi24_3 rfl rfl) rfl rfl rfl rfl (VO.gr (v := .sl .fz (a0.Kids.map Node.c)) (r_load_q (i := 1) rfl sz22 rfl rfl rfl) rfl rfl rfl rfl (VO.gt (v := .i (a0.Kids.length : Int)) (t_len rfl ⟨_, Tryd.underlying22⟩ rfl (by rw [List.length_map])) rfl rfl rfl rfl (VO.gt (v := .ptr ob_2 3) (t_fieldAddr_ptr rfl fi24_3 rfl rfl) rfl rfl rfl rfl (VO.gr (v := .sl .fz (a1.Kids.map Node.c)) (r_load_q (i := 0) rfl sz22 rfl rfl rfl) rfl rfl rfl rfl (VO.gt (v := .i (a1.Kids.length : Int)) (t_len rfl ⟨_, Tryd.underlying22⟩ rfl (by rw [List.length_map])) rfl rfl rfl rfl (VO.gt (v := .bool ((a0.Kids.length : Int) != (a1.Kids.length : Int))) (t_cmp rfl rfl rfl rfl rfl) rfl rfl rfl rfl (VO.t (v := .bool ((a0.Kids.length : Int) != (a1.Kids.length : Int))) (t_pick (b := false) rfl rfl (fun h => by cases h) (fun _ => rfl)) rfl rfl (VO.n (VW.k3 2 3 33 rfl ?_)))))))))
          refine VW.cond (b := ((a0.Kids.length : Int) != (a1.Kids.length : Int))) rfl (fun hc_12 => ?_) (fun hc_12 => ?_)
          · replace h := iteT h hc_12
            refine VW.q (VO.a (v := .bool false) rfl (fun _ _ => rfl) (VO.n (VW.ret (thenQ_ret ?_))))
            cases oi h
            exact ret0 rfl rfl ⟨rfl, rfl⟩
          · replace h := iteF h hc_12
            refine VW.skip (thenQ_normal (VW.k2 2 3 rfl (VW.seq (VW.q (VO.a (v := .i 0) rfl (fun _ _ => rfl) (VO.n (VW.block (VW.k3 2 3 5 rfl (VW.frontS 0 rfl ?_)))))))))
            refine VW.frontS 1 rfl ?_
            obtain ⟨o_13, hx_14, h⟩ := obind h
            refine VW.loopL (ih_ref03_Same_l0 _ _ _ _ hx_14 _ ob_1 ob_2 ?_ ?_)
            · intro ho_
              subst ho_
              try dsimp only at h
              refine blockQ_hit (thenQ_normal (VW.q (VO.a (v := .bool true) rfl (fun _ _ => rfl) (VO.n (VW.ret ?_)))))
              cases oi h
              exact ret0 rfl rfl ⟨rfl, rfl⟩
            · intro ho_
              subst ho_
              try dsimp only at h
              refine blockQ_ret (thenQ_ret ?_)
              obtain rfl := oi h
              exact ⟨.inr rfl, rfl, _, .bool false, hq [] [], rfl, VLe.refl _, hq_sub .slnil .slnil, rfl, rfl⟩

theorem law03_back_ok (a0 : Node) (a1 : Int) (r : Node) (h : PL.law03_back a0 a1 = some r) :
    VCalls Tryd.prog 15 [.agg (Node.l a0), .i a1] (hq [] []) (fun v H => .agg (Node.l r) = v ∧ H = hq [] []) := by
  revert h
  refine (PL.law03_back.l0.mutual_partial_correctness (motive_1 := fun a0 a1 c_0 i_1 o => ∀ (Q : Exit → Env → HH → Prop) (ob_2 : Nat) (ob_3 : Nat) (ob_4 : Nat) (tk_5 : Tok) (hg_6 : Tok.grow tk_5 4 (c_0.map Node.c)) (hx0 : ∀ (c_7 : List Node) (tk_8 : Tok), c_7 = o → Tok.grow tk_8 4 (c_7.map Node.c) → Q (.exit 0) ⟨[(4, .ptr ob_3 0), (5, .ptr ob_4 0)], []⟩ (hq ([[(ob_3, .cells [.i 0, .i 0, .i 0, .sl .nl []])], [(ob_4, .cells [.i a0.Op, .i a0.Lo, .i a0.Hi, .sl tk_8 (c_7.map Node.c)])]]) ([tk_8]))), VW Tryd.prog 39 (codeAt [1, 1, 0, 1, 0, 0] (bodyOf Tryd.f15)) (thenQ (VL Tryd.prog 39 (codeAt [1, 1, 0, 1, 0, 0] (bodyOf Tryd.f15)) Q) Q) ⟨[(1, .i a1), (2, .ptr ob_2 0), (4, .ptr ob_3 0), (5, .ptr ob_4 0), (6, .i i_1)], []⟩ (hq ([[(ob_2, .cells (Node.l a0))], [(ob_3, .cells [.i 0, .i 0, .i 0, .sl .nl []])], [(ob_4, .cells [.i a0.Op, .i a0.Lo, .i a0.Hi, .sl tk_5 (c_0.map Node.c)])]]) ([tk_5]))) (motive_2 := fun a0 a1 r => VCalls Tryd.prog 15 [.agg (Node.l a0), .i a1] (hq [] []) (fun v H => .agg (Node.l r) = v ∧ H = hq [] [])) ?_ ?_).2 a0 a1 r
  · intro _ _ ih_law03_back_l0 ih_law03_back a0 a1 c_0 i_1 o h Q ob_2 ob_3 ob_4 tk_5 hg_6 hx0
    refine VW.seq (VW.q (VO.m rfl rfl (VO.t (v := .ptr ob_2 3) (t_fieldAddr_ptr rfl fi29_3 rfl rfl) rfl rfl (VO.r (v := .sl .fz (a0.Kids.map Node.c)) (r_load_q (i := 0) rfl sz27 rfl rfl rfl) rfl rfl (VO.t (v := .i (a0.Kids.length : Int)) (t_len rfl ⟨_, Tryd.underlying27⟩ rfl (by rw [List.length_map])) rfl rfl (VO.t (v := .bool (decide (i_1 < (a0.Kids.length : Int)))) (t_cmp rfl rfl rfl rfl rfl) rfl rfl (VO.m rfl rfl ?_)))))))
    refine VO.caseB (d := 19) (b := (decide (i_1 < (a0.Kids.length : Int)))) rfl (fun hc_9 => ?_) (fun hc_9 => ?_)
    · replace h := iteT h hc_9
      refine VO.gt (v := .i a1) (t_move rfl rfl) rfl rfl rfl rfl (VO.gt (v := .bool (decide (a1 > 0))) (t_cmp rfl rfl rfl (fun _ _ => rfl) rfl) rfl rfl rfl rfl (VO.t (v := .bool (decide (a1 > 0))) (t_pick (b := true) rfl rfl (fun _ => rfl) (fun h => by cases h)) rfl rfl (VO.n (VW.k8 1 2 4 5 6 20 21 22 rfl ?_))))
      refine VW.cond (b := (decide (a1 > 0))) rfl (fun hc_10 => ?_) (fun hc_10 => ?_)
      · replace h := iteT h hc_10
        refine VW.skip (thenQ_normal (VW.k7 1 2 4 5 6 20 21 rfl (VW.seq (VW.block (VW.draw 14 mix rfl (VA.t (i := 0) (v := .ptr ob_4 3) rfl (t_fieldAddr_ptr rfl fi24_3 rfl rfl) (.inl rfl) (by kernel_rfl) (VA.t (i := 2) (v := .ptr ob_2 3) rfl (t_fieldAddr_ptr rfl fi29_3 rfl rfl) (.inl rfl) (by kernel_rfl) (VA.t (i := 4) rfl (t_move rfl rfl) (.inl rfl) (by kernel_rfl) (VA.t (i := 7) rfl (t_move rfl rfl) (.inl rfl) (by kernel_rfl) ?_)))))))))
        refine VA.t (i := 8) (v := .i (w64 (a1 - 1))) rfl (t_sub rfl rfl (fun _ _ => rfl) rfl) (.inl rfl) (by kernel_rfl) ?_
        refine VA.alt [1, 3] (by kernel_rfl) rfl ⟨?_, ?_, trivial⟩
        · refine VA1.r (i := 1) (v := .sl tk_5 (c_0.map Node.c)) rfl (r_load_q (i := 2) rfl sz22 rfl rfl rfl) (.inl rfl) rfl (VA.phase (g := 5) [3, 5, 6] 3 (VP.take (i := 3) (v := .sl .fz (a0.Kids.map Node.c)) rfl (r_load_q (i := 0) rfl sz27 rfl rfl rfl) (.inl rfl) (by kernel_rfl) ?_))
          obtain ⟨c_11, hc_11, h⟩ := obind h
          refine VP.take (i := 5) (v := .vptr (Node.l c_11)) rfl (TOp.r (t_indexAddr rfl sl27 rfl rfl (getI_some hc_11).1 (map_get (getI_some hc_11).2 (Node.c_eq c_11)) rfl)) (.inl rfl) (by kernel_rfl) (VP.take (i := 6) (v := .agg (Node.l c_11)) rfl (r_load_v rfl sz29 rfl rfl) (.inl rfl) (by kernel_rfl) (VP.done (by kernel_rfl) ?_))
          obtain ⟨rv_12, hx_13, h⟩ := obind h
          refine VA.k (i := 9) rfl (w_keep rfl fn15 rfl ⟨_, _, rfl, rfl, _, _, rfl, rfl, rfl⟩ (ih_law03_back _ _ _ hx_13)) (.inl rfl) (by kernel_rfl) rfl (VA.w (i := 10) (fun v H' => ∃ t_14, .sl (.cap t_14 4) (([rv_12]).map Node.c) = v ∧ H' = hq ([[(ob_2, .cells (Node.l a0))], [(ob_3, .cells [.i 0, .i 0, .i 0, .sl .nl []])], [(ob_4, .cells [.i a0.Op, .i a0.Lo, .i a0.Hi, .sl tk_5 (c_0.map Node.c)])]]) ([.cap t_14 4, tk_5])) rfl (w_buildSlice (l := [(Node.l rv_12)]) rfl el22 ⟨rfl, _, _, rfl, rfl, rfl, rfl, rfl⟩ rfl (nle rfl) (fun tk => ⟨tk, by simp only [List.map_cons, List.map_nil, Node.c_eq], rfl⟩)) (.inl rfl) (by kernel_rfl) rfl ?_)
          rintro _ _ ⟨t_14, rfl, rfl⟩
          obtain ⟨_, hr_15, h⟩ := obind h
          refine VA.w (i := 11) (fun v H' => ∃ t_16, .sl (.cap t_16 4) ((c_0 ++ ([rv_12])).map Node.c) = v ∧ H' = hq ([[(ob_2, .cells (Node.l a0))], [(ob_3, .cells [.i 0, .i 0, .i 0, .sl .nl []])], [(ob_4, .cells [.i a0.Op, .i a0.Lo, .i a0.Hi, .sl tk_5 (c_0.map Node.c)])]]) ([.cap t_16 4, .cap t_14 4])) rfl (w_append (objs := List.flatten [[(ob_2, .cells (Node.l a0))], [(ob_3, .cells [.i 0, .i 0, .i 0, .sl .nl []])], [(ob_4, .cells [.i a0.Op, .i a0.Lo, .i a0.Hi, .sl tk_5 (c_0.map Node.c)])]]) (tks := [.cap t_14 4, tk_5]) (i := 1) rfl el22 rfl rfl hg_6 rfl (elemsOK_map Node.c_ok _) (by have := room_some hr_15; simpa using this) (nle rfl) (fun t => ⟨t, by simp only [List.map_append, List.map_nil, List.nil_append], rfl⟩)) (.inl rfl) (by kernel_rfl) rfl ?_
          rintro _ _ ⟨t_16, rfl, rfl⟩
          refine VA.t (i := 12) (v := .ptr ob_4 3) rfl (t_fieldAddr_ptr rfl fi24_3 rfl rfl) (.inl rfl) (by kernel_rfl) (VA.w (i := 13) (fun v H' => .any = v ∧ H' = hq ([[(ob_2, .cells (Node.l a0))], [(ob_3, .cells [.i 0, .i 0, .i 0, .sl .nl []])], [(ob_4, .cells [.i a0.Op, .i a0.Lo, .i a0.Hi, .sl (.cap t_16 4) ((c_0 ++ ([rv_12])).map Node.c)])]]) ([.cap t_16 4, .cap t_14 4])) rfl (w_store_q (i := 2) rfl sz22 rfl rfl rfl rfl rfl (nle rfl) ⟨rfl, rfl⟩) (.inl rfl) (by kernel_rfl) rfl ?_)
          rintro _ _ ⟨rfl, rfl⟩
          refine VA.done (by kernel_rfl) (blockQ_normal (thenQ_normal (VW.k7 1 2 4 5 6 20 21 rfl (VW.hsub (A := hq ([[(ob_2, .cells (Node.l a0))], [(ob_3, .cells [.i 0, .i 0, .i 0, .sl .nl []])], [(ob_4, .cells [.i a0.Op, .i a0.Lo, .i a0.Hi, .sl (.cap t_16 4) ((c_0 ++ ([rv_12])).map Node.c)])]]) ([.cap t_16 4])) (hq_sub (.cons_cons _ (.cons_cons _ (.cons_cons _ .slnil))) (.cons_cons _ (.cons _ .slnil))) (VW.region (VO.m rfl rfl (VO.t (v := .i (w64 (i_1 + 1))) (t_add rfl rfl (fun _ _ => rfl) rfl) rfl rfl (VO.a (v := .i (w64 (i_1 + 1))) rfl rfl (VO.nil ?_)))))))))
          refine thenQ_normal (VL.round ?_)
          refine VW.k5 1 2 4 5 6 rfl ?_
          exact ih_law03_back_l0 _ _ _ _ _ h _ ob_2 ob_3 ob_4 (.cap t_16 4) (.inr ⟨_, rfl⟩) hx0
        · refine VA1.r (i := 3) (v := .sl .fz (a0.Kids.map Node.c)) rfl (r_load_q (i := 0) rfl sz27 rfl rfl rfl) (.inl rfl) rfl ?_
          obtain ⟨c_17, hc_17, h⟩ := obind h
          refine VA.t (i := 5) (v := .vptr (Node.l c_17)) rfl (t_indexAddr rfl sl27 rfl rfl (getI_some hc_17).1 (map_get (getI_some hc_17).2 (Node.c_eq c_17)) rfl) (.inl rfl) (by kernel_rfl) ?_
          refine VA.alt [1, 6] (by kernel_rfl) rfl ⟨?_, ?_, trivial⟩
          · refine VA1.r (i := 1) (v := .sl tk_5 (c_0.map Node.c)) rfl (r_load_q (i := 2) rfl sz22 rfl rfl rfl) (.inl rfl) rfl (VA.phase (g := 5) [6] 1 (VP.take (i := 6) (v := .agg (Node.l c_17)) rfl (r_load_v rfl sz29 rfl rfl) (.inl rfl) (by kernel_rfl) (VP.done (by kernel_rfl) ?_)))
            obtain ⟨rv_18, hx_19, h⟩ := obind h
            refine VA.k (i := 9) rfl (w_keep rfl fn15 rfl ⟨_, _, rfl, rfl, _, _, rfl, rfl, rfl⟩ (ih_law03_back _ _ _ hx_19)) (.inl rfl) (by kernel_rfl) rfl (VA.w (i := 10) (fun v H' => ∃ t_20, .sl (.cap t_20 4) (([rv_18]).map Node.c) = v ∧ H' = hq ([[(ob_2, .cells (Node.l a0))], [(ob_3, .cells [.i 0, .i 0, .i 0, .sl .nl []])], [(ob_4, .cells [.i a0.Op, .i a0.Lo, .i a0.Hi, .sl tk_5 (c_0.map Node.c)])]]) ([.cap t_20 4, tk_5])) rfl (w_buildSlice (l := [(Node.l rv_18)]) rfl el22 ⟨rfl, _, _, rfl, rfl, rfl, rfl, rfl⟩ rfl (nle rfl) (fun tk => ⟨tk, by simp only [List.map_cons, List.map_nil, Node.c_eq], rfl⟩)) (.inl rfl) (by kernel_rfl) rfl ?_)
            rintro _ _ ⟨t_20, rfl, rfl⟩
            obtain ⟨_, hr_21, h⟩ := obind h
            refine VA.w (i := 11) (fun v H' => ∃ t_22, .sl (.cap t_22 4) ((c_0 ++ ([rv_18])).map Node.c) = v ∧ H' = hq ([[(ob_2, .cells (Node.l a0))], [(ob_3, .cells [.i 0, .i 0, .i 0, .sl .nl []])], [(ob_4, .cells [.i a0.Op, .i a0.Lo, .i a0.Hi, .sl tk_5 (c_0.map Node.c)])]]) ([.cap t_22 4, .cap t_20 4])) rfl (w_append (objs := List.flatten [[(ob_2, .cells (Node.l a0))], [(ob_3, .cells [.i 0, .i 0, .i 0, .sl .nl []])], [(ob_4, .cells [.i a0.Op, .i a0.Lo, .i a0.Hi, .sl tk_5 (c_0.map Node.c)])]]) (tks := [.cap t_20 4, tk_5]) (i := 1) rfl el22 rfl rfl hg_6 rfl (elemsOK_map Node.c_ok _) (by have := room_some hr_21; simpa using this) (nle rfl) (fun t => ⟨t, by simp only [List.map_append, List.map_nil, List.nil_append], rfl⟩)) (.inl rfl) (by kernel_rfl) rfl ?_
            rintro _ _ ⟨t_22, rfl, rfl⟩
            refine VA.t (i := 12) (v := .ptr ob_4 3) rfl (t_fieldAddr_ptr rfl fi24_3 rfl rfl) (.inl rfl) (by kernel_rfl) (VA.w (i := 13) (fun v H' => .any = v ∧ H' = hq ([[(ob_2, .cells (Node.l a0))], [(ob_3, .cells [.i 0, .i 0, .i 0, .sl .nl []])], [(ob_4, .cells [.i a0.Op, .i a0.Lo, .i a0.Hi, .sl (.cap t_22 4) ((c_0 ++ ([rv_18])).map Node.c)])]]) ([.cap t_22 4, .cap t_20 4])) rfl (w_store_q (i := 2) rfl sz22 rfl rfl rfl rfl rfl (nle rfl) ⟨rfl, rfl⟩) (.inl rfl) (by kernel_rfl) rfl ?_)
            rintro _ _ ⟨rfl, rfl⟩
            refine VA.done (by kernel_rfl) (blockQ_normal (thenQ_normal (VW.k7 1 2 4 5 6 20 21 rfl (VW.hsub (A := hq ([[(ob_2, .cells (Node.l a0))], [(ob_3, .cells [.i 0, .i 0, .i 0, .sl .nl []])], [(ob_4, .cells [.i a0.Op, .i a0.Lo, .i a0.Hi, .sl (.cap t_22 4) ((c_0 ++ ([rv_18])).map Node.c)])]]) ([.cap t_22 4])) (hq_sub (.cons_cons _ (.cons_cons _ (.cons_cons _ .slnil))) (.cons_cons _ (.cons _ .slnil))) (VW.region (VO.m rfl rfl (VO.t (v := .i (w64 (i_1 + 1))) (t_add rfl rfl (fun _ _ => rfl) rfl) rfl rfl (VO.a (v := .i (w64 (i_1 + 1))) rfl rfl (VO.nil ?_)))))))))
            refine thenQ_normal (VL.round ?_)
            refine VW.k5 1 2 4 5 6 rfl ?_
            exact ih_law03_back_l0 _ _ _ _ _ h _ ob_2 ob_3 ob_4 (.cap t_22 4) (.inr ⟨_, rfl⟩) hx0
          · refine VA1.r (i := 6) (v := .agg (Node.l c_17)) rfl (r_load_v rfl sz29 rfl rfl) (.inl rfl) rfl ?_
            refine VA.alt [1, 9] (by kernel_rfl) rfl ⟨?_, ?_, trivial⟩
            · refine VA1.r (i := 1) (v := .sl tk_5 (c_0.map Node.c)) rfl (r_load_q (i := 2) rfl sz22 rfl rfl rfl) (.inl rfl) rfl ?_
              obtain ⟨rv_23, hx_24, h⟩ := obind h
              refine VA.k (i := 9) rfl (w_keep rfl fn15 rfl ⟨_, _, rfl, rfl, _, _, rfl, rfl, rfl⟩ (ih_law03_back _ _ _ hx_24)) (.inl rfl) (by kernel_rfl) rfl (VA.w (i := 10) (fun v H' => ∃ t_25, .sl (.cap t_25 4) (([rv_23]).map Node.c) = v ∧ H' = hq ([[(ob_2, .cells (Node.l a0))], [(ob_3, .cells [.i 0, .i 0, .i 0, .sl .nl []])], [(ob_4, .cells [.i a0.Op, .i a0.Lo, .i a0.Hi, .sl tk_5 (c_0.map Node.c)])]]) ([.cap t_25 4, tk_5])) rfl (w_buildSlice (l := [(Node.l rv_23)]) rfl el22 ⟨rfl, _, _, rfl, rfl, rfl, rfl, rfl⟩ rfl (nle rfl) (fun tk => ⟨tk, by simp only [List.map_cons, List.map_nil, Node.c_eq], rfl⟩)) (.inl rfl) (by kernel_rfl) rfl ?_)
              rintro _ _ ⟨t_25, rfl, rfl⟩
              obtain ⟨_, hr_26, h⟩ := obind h
              refine VA.w (i := 11) (fun v H' => ∃ t_27, .sl (.cap t_27 4) ((c_0 ++ ([rv_23])).map Node.c) = v ∧ H' = hq ([[(ob_2, .cells (Node.l a0))], [(ob_3, .cells [.i 0, .i 0, .i 0, .sl .nl []])], [(ob_4, .cells [.i a0.Op, .i a0.Lo, .i a0.Hi, .sl tk_5 (c_0.map Node.c)])]]) ([.cap t_27 4, .cap t_25 4])) rfl (w_append (objs := List.flatten [[(ob_2, .cells (Node.l a0))], [(ob_3, .cells [.i 0, .i 0, .i 0, .sl .nl []])], [(ob_4, .cells [.i a0.Op, .i a0.Lo, .i a0.Hi, .sl tk_5 (c_0.map Node.c)])]]) (tks := [.cap t_25 4, tk_5]) (i := 1) rfl el22 rfl rfl hg_6 rfl (elemsOK_map Node.c_ok _) (by have := room_some hr_26; simpa using this) (nle rfl) (fun t => ⟨t, by simp only [List.map_append, List.map_nil, List.nil_append], rfl⟩)) (.inl rfl) (by kernel_rfl) rfl ?_
              rintro _ _ ⟨t_27, rfl, rfl⟩
              refine VA.t (i := 12) (v := .ptr ob_4 3) rfl (t_fieldAddr_ptr rfl fi24_3 rfl rfl) (.inl rfl) (by kernel_rfl) (VA.w (i := 13) (fun v H' => .any = v ∧ H' = hq ([[(ob_2, .cells (Node.l a0))], [(ob_3, .cells [.i 0, .i 0, .i 0, .sl .nl []])], [(ob_4, .cells [.i a0.Op, .i a0.Lo, .i a0.Hi, .sl (.cap t_27 4) ((c_0 ++ ([rv_23])).map Node.c)])]]) ([.cap t_27 4, .cap t_25 4])) rfl (w_store_q (i := 2) rfl sz22 rfl rfl rfl rfl rfl (nle rfl) ⟨rfl, rfl⟩) (.inl rfl) (by kernel_rfl) rfl ?_)
              rintro _ _ ⟨rfl, rfl⟩
              refine VA.done (by kernel_rfl) (blockQ_normal (thenQ_normal (VW.k7 1 2 4 5 6 20 21 rfl (VW.hsub (A := hq ([[(ob_2, .cells (Node.l a0))], [(ob_3, .cells [.i 0, .i 0, .i 0, .sl .nl []])], [(ob_4, .cells [.i a0.Op, .i a0.Lo, .i a0.Hi, .sl (.cap t_27 4) ((c_0 ++ ([rv_23])).map Node.c)])]]) ([.cap t_27 4])) (hq_sub (.cons_cons _ (.cons_cons _ (.cons_cons _ .slnil))) (.cons_cons _ (.cons _ .slnil))) (VW.region (VO.m rfl rfl (VO.t (v := .i (w64 (i_1 + 1))) (t_add rfl rfl (fun _ _ => rfl) rfl) rfl rfl (VO.a (v := .i (w64 (i_1 + 1))) rfl rfl (VO.nil ?_)))))))))
              refine thenQ_normal (VL.round ?_)
              refine VW.k5 1 2 4 5 6 rfl ?_
              exact ih_law03_back_l0 _ _ _ _ _ h _ ob_2 ob_3 ob_4 (.cap t_27 4) (.inr ⟨_, rfl⟩) hx0
            · obtain ⟨rv_28, hx_29, h⟩ := obind h
              refine VA1.k (i := 9) rfl (w_keep rfl fn15 rfl ⟨_, _, rfl, rfl, _, _, rfl, rfl, rfl⟩ (ih_law03_back _ _ _ hx_29)) (.inl rfl) rfl ?_
              refine VA.alt [1, 10] (by kernel_rfl) rfl ⟨?_, ?_, trivial⟩
              · refine VA1.r (i := 1) (v := .sl tk_5 (c_0.map Node.c)) rfl (r_load_q (i := 2) rfl sz22 rfl rfl rfl) (.inl rfl) rfl (VA.w (i := 10) (fun v H' => ∃ t_30, .sl (.cap t_30 4) (([rv_28]).map Node.c) = v ∧ H' = hq ([[(ob_2, .cells (Node.l a0))], [(ob_3, .cells [.i 0, .i 0, .i 0, .sl .nl []])], [(ob_4, .cells [.i a0.Op, .i a0.Lo, .i a0.Hi, .sl tk_5 (c_0.map Node.c)])]]) ([.cap t_30 4, tk_5])) rfl (w_buildSlice (l := [(Node.l rv_28)]) rfl el22 ⟨rfl, _, _, rfl, rfl, rfl, rfl, rfl⟩ rfl (nle rfl) (fun tk => ⟨tk, by simp only [List.map_cons, List.map_nil, Node.c_eq], rfl⟩)) (.inl rfl) (by kernel_rfl) rfl ?_)
                rintro _ _ ⟨t_30, rfl, rfl⟩
                obtain ⟨_, hr_31, h⟩ := obind h
                refine VA.w (i := 11) (fun v H' => ∃ t_32, .sl (.cap t_32 4) ((c_0 ++ ([rv_28])).map Node.c) = v ∧ H' = hq ([[(ob_2, .cells (Node.l a0))], [(ob_3, .cells [.i 0, .i 0, .i 0, .sl .nl []])], [(ob_4, .cells [.i a0.Op, .i a0.Lo, .i a0.Hi, .sl tk_5 (c_0.map Node.c)])]]) ([.cap t_32 4, .cap t_30 4])) rfl (w_append (objs := List.flatten [[(ob_2, .cells (Node.l a0))], [(ob_3, .cells [.i 0, .i 0, .i 0, .sl .nl []])], [(ob_4, .cells [.i a0.Op, .i a0.Lo, .i a0.Hi, .sl tk_5 (c_0.map Node.c)])]]) (tks := [.cap t_30 4, tk_5]) (i := 1) rfl el22 rfl rfl hg_6 rfl (elemsOK_map Node.c_ok _) (by have := room_some hr_31; simpa using this) (nle rfl) (fun t => ⟨t, by simp only [List.map_append, List.map_nil, List.nil_append], rfl⟩)) (.inl rfl) (by kernel_rfl) rfl ?_
                rintro _ _ ⟨t_32, rfl, rfl⟩
                refine VA.t (i := 12) (v := .ptr ob_4 3) rfl (t_fieldAddr_ptr rfl fi24_3 rfl rfl) (.inl rfl) (by kernel_rfl) (VA.w (i := 13) (fun v H' => .any = v ∧ H' = hq ([[(ob_2, .cells (Node.l a0))], [(ob_3, .cells [.i 0, .i 0, .i 0, .sl .nl []])], [(ob_4, .cells [.i a0.Op, .i a0.Lo, .i a0.Hi, .sl (.cap t_32 4) ((c_0 ++ ([rv_28])).map Node.c)])]]) ([.cap t_32 4, .cap t_30 4])) rfl (w_store_q (i := 2) rfl sz22 rfl rfl rfl rfl rfl (nle rfl) ⟨rfl, rfl⟩) (.inl rfl) (by kernel_rfl) rfl ?_)
                rintro _ _ ⟨rfl, rfl⟩
                refine VA.done (by kernel_rfl) (blockQ_normal (thenQ_normal (VW.k7 1 2 4 5 6 20 21 rfl (VW.hsub (A := hq ([[(ob_2, .cells (Node.l a0))], [(ob_3, .cells [.i 0, .i 0, .i 0, .sl .nl []])], [(ob_4, .cells [.i a0.Op, .i a0.Lo, .i a0.Hi, .sl (.cap t_32 4) ((c_0 ++ ([rv_28])).map Node.c)])]]) ([.cap t_32 4])) (hq_sub (.cons_cons _ (.cons_cons _ (.cons_cons _ .slnil))) (.cons_cons _ (.cons _ .slnil))) (VW.region (VO.m rfl rfl (VO.t (v := .i (w64 (i_1 + 1))) (t_add rfl rfl (fun _ _ => rfl) rfl) rfl rfl (VO.a (v := .i (w64 (i_1 + 1))) rfl rfl (VO.nil ?_)))))))))
                refine thenQ_normal (VL.round ?_)
                refine VW.k5 1 2 4 5 6 rfl ?_
                exact ih_law03_back_l0 _ _ _ _ _ h _ ob_2 ob_3 ob_4 (.cap t_32 4) (.inr ⟨_, rfl⟩) hx0
              · refine VA1.w (i := 10) (fun v H' => ∃ t_33, .sl (.cap t_33 4) (([rv_28]).map Node.c) = v ∧ H' = hq ([[(ob_2, .cells (Node.l a0))], [(ob_3, .cells [.i 0, .i 0, .i 0, .sl .nl []])], [(ob_4, .cells [.i a0.Op, .i a0.Lo, .i a0.Hi, .sl tk_5 (c_0.map Node.c)])]]) ([.cap t_33 4, tk_5])) rfl (w_buildSlice (l := [(Node.l rv_28)]) rfl el22 ⟨rfl, _, _, rfl, rfl, rfl, rfl, rfl⟩ rfl (nle rfl) (fun tk => ⟨tk, by simp only [List.map_cons, List.map_nil, Node.c_eq], rfl⟩)) (.inl rfl) rfl ?_
                rintro _ _ ⟨t_33, rfl, rfl⟩
                refine VA.phase (g := 3) [1] 1 (VP.take (i := 1) (v := .sl tk_5 (c_0.map Node.c)) rfl (r_load_q (i := 2) rfl sz22 rfl rfl rfl) (.inl rfl) (by kernel_rfl) (VP.done (by kernel_rfl) ?_))
                obtain ⟨_, hr_34, h⟩ := obind h
                refine VA.w (i := 11) (fun v H' => ∃ t_35, .sl (.cap t_35 4) ((c_0 ++ ([rv_28])).map Node.c) = v ∧ H' = hq ([[(ob_2, .cells (Node.l a0))], [(ob_3, .cells [.i 0, .i 0, .i 0, .sl .nl []])], [(ob_4, .cells [.i a0.Op, .i a0.Lo, .i a0.Hi, .sl tk_5 (c_0.map Node.c)])]]) ([.cap t_35 4, .cap t_33 4])) rfl (w_append (objs := List.flatten [[(ob_2, .cells (Node.l a0))], [(ob_3, .cells [.i 0, .i 0, .i 0, .sl .nl []])], [(ob_4, .cells [.i a0.Op, .i a0.Lo, .i a0.Hi, .sl tk_5 (c_0.map Node.c)])]]) (tks := [.cap t_33 4, tk_5]) (i := 1) rfl el22 rfl rfl hg_6 rfl (elemsOK_map Node.c_ok _) (by have := room_some hr_34; simpa using this) (nle rfl) (fun t => ⟨t, by simp only [List.map_append, List.map_nil, List.nil_append], rfl⟩)) (.inl rfl) (by kernel_rfl) rfl ?_
                rintro _ _ ⟨t_35, rfl, rfl⟩
                refine VA.t (i := 12) (v := .ptr ob_4 3) rfl (t_fieldAddr_ptr rfl fi24_3 rfl rfl) (.inl rfl) (by kernel_rfl) (VA.w (i := 13) (fun v H' => .any = v ∧ H' = hq ([[(ob_2, .cells (Node.l a0))], [(ob_3, .cells [.i 0, .i 0, .i 0, .sl .nl []])], [(ob_4, .cells [.i a0.Op, .i a0.Lo, .i a0.Hi, .sl (.cap t_35 4) ((c_0 ++ ([rv_28])).map Node.c)])]]) ([.cap t_35 4, .cap t_33 4])) rfl (w_store_q (i := 2) rfl sz22 rfl rfl rfl rfl rfl (nle rfl) ⟨rfl, rfl⟩) (.inl rfl) (by kernel_rfl) rfl ?_)
                rintro _ _ ⟨rfl, rfl⟩
                refine VA.done (by kernel_rfl) (blockQ_normal (thenQ_normal (VW.k7 1 2 4 5 6 20 21 rfl (VW.hsub (A := hq ([[(ob_2, .cells (Node.l a0))], [(ob_3, .cells [.i 0, .i 0, .i 0, .sl .nl []])], [(ob_4, .cells [.i a0.Op, .i a0.Lo, .i a0.Hi, .sl (.cap t_35 4) ((c_0 ++ ([rv_28])).map Node.c)])]]) ([.cap t_35 4])) (hq_sub (.cons_cons _ (.cons_cons _ (.cons_cons _ .slnil))) (.cons_cons _ (.cons _ .slnil))) (VW.region (VO.m rfl rfl (VO.t (v := .i (w64 (i_1 + 1))) (t_add rfl rfl (fun _ _ => rfl) rfl) rfl rfl (VO.a (v := .i (w64 (i_1 + 1))) rfl rfl (VO.nil ?_)))))))))
                refine thenQ_normal (VL.round ?_)
                refine VW.k5 1 2 4 5 6 rfl ?_
                exact ih_law03_back_l0 _ _ _ _ _ h _ ob_2 ob_3 ob_4 (.cap t_35 4) (.inr ⟨_, rfl⟩) hx0
      · replace h := iteF h hc_10
        refine VW.k2 4 5 rfl (VW.frontS 2 rfl (VW.frontS 2 rfl (VW.hsub (A := hq ([[(ob_3, .cells [.i 0, .i 0, .i 0, .sl .nl []])], [(ob_4, .cells [.i a0.Op, .i a0.Lo, .i a0.Hi, .sl tk_5 (c_0.map Node.c)])]]) ([tk_5])) (hq_sub (.cons_cons _ (.cons_cons _ (.cons _ .slnil))) (.cons_cons _ .slnil)) (VW.exit (thenQ_exit (thenQ_exit ?_))))))
        obtain rfl := oi h
        exact hx0 _ tk_5 rfl hg_6
    · replace h := iteF h hc_9
      refine VO.s rfl (VO.s rfl (VO.t (v := .bool false) (t_pick (b := false) rfl rfl (fun h => by cases h) (fun _ => (fun _ _ => rfl))) rfl rfl (VO.n (VW.k8 1 2 4 5 6 20 21 22 rfl (VW.condF rfl (VW.k2 4 5 rfl (VW.frontS 2 rfl (VW.frontS 2 rfl (VW.hsub (A := hq ([[(ob_3, .cells [.i 0, .i 0, .i 0, .sl .nl []])], [(ob_4, .cells [.i a0.Op, .i a0.Lo, .i a0.Hi, .sl tk_5 (c_0.map Node.c)])]]) ([tk_5])) (hq_sub (.cons_cons _ (.cons_cons _ (.cons _ .slnil))) (.cons_cons _ .slnil)) ?_)))))))))
      refine VW.exit (thenQ_exit (thenQ_exit ?_))
      obtain rfl := oi h
      exact hx0 _ tk_5 rfl hg_6
  · intro _ ih_law03_back_l0 a0 a1 r h 
    refine VCalls.of_cell 39 4 24 Tryd.func15 rfl rfl rfl (nle rfl) (VW.k2 0 1 rfl (VW.q (VO.w (fun v H' => ∃ ob_2, .ptr ob_2 0 = v ∧ H' = hq ([[(ob_2, .cells (Node.l a0))]]) []) (w_box_q rfl rfl rfl (fun ob => ⟨ob, rfl, rfl⟩)) rfl rfl ?_)))
    rintro _ _ ⟨ob_2, rfl, rfl⟩
    refine VO.w (fun v H' => ∃ ob_3, .ptr ob_3 0 = v ∧ H' = hq ([[(ob_3, .cells [.i 0, .i 0, .i 0, .sl .nl []])], [(ob_2, .cells (Node.l a0))]]) []) (w_alloc_q rfl zt24 (fun ob => ⟨ob, rfl, rfl⟩)) rfl rfl ?_
    rintro _ _ ⟨ob_3, rfl, rfl⟩
    refine VO.n (VW.k3 1 2 4 rfl (VW.q (VO.t (v := .ptr ob_2 0) (t_fieldAddr_ptr rfl fi29_0 rfl rfl) rfl rfl (VO.r (v := .i a0.Op) (r_load_q (i := 1) rfl sz3 rfl rfl rfl) rfl rfl (VO.t (v := .ptr ob_2 1) (t_fieldAddr_ptr rfl fi29_1 rfl rfl) rfl rfl (VO.r (v := .i a0.Lo) (r_load_q (i := 1) rfl sz3 rfl rfl rfl) rfl rfl (VO.t (v := .ptr ob_2 2) (t_fieldAddr_ptr rfl fi29_2 rfl rfl) rfl rfl (VO.r (v := .i a0.Hi) (r_load_q (i := 1) rfl sz3 rfl rfl rfl) rfl rfl (VO.t (v := .agg [.i a0.Op, .i a0.Lo, .i a0.Hi, .sl .nl []]) (t_build rfl st24 ⟨_, _, rfl, rfl, rfl, _, _, rfl, rfl, rfl, _, _, rfl, rfl, rfl, rfl⟩ rfl) rfl rfl ?_)))))))))
    refine VO.w (fun v H' => ∃ ob_4, .ptr ob_4 0 = v ∧ H' = hq ([[(ob_4, .cells [.i 0, .i 0, .i 0, .sl .nl []])], [(ob_3, .cells [.i 0, .i 0, .i 0, .sl .nl []])], [(ob_2, .cells (Node.l a0))]]) []) (w_alloc_q rfl zt24 (fun ob => ⟨ob, rfl, rfl⟩)) rfl rfl ?_
    rintro _ _ ⟨ob_4, rfl, rfl⟩
    refine VO.w (fun v H' => .any = v ∧ H' = hq ([[(ob_4, .cells [.i a0.Op, .i a0.Lo, .i a0.Hi, .sl .nl []])], [(ob_3, .cells [.i 0, .i 0, .i 0, .sl .nl []])], [(ob_2, .cells (Node.l a0))]]) []) (w_store_q (i := 0) rfl sz24 rfl rfl rfl rfl rfl (nle rfl) ⟨rfl, rfl⟩) rfl rfl ?_
    rintro _ _ ⟨rfl, rfl⟩
    refine VO.n (VW.k4 1 2 4 5 rfl (VW.seq (VW.q (VO.a (v := .i 0) rfl (fun _ _ => rfl) (VO.n (VW.block (VW.k5 1 2 4 5 6 rfl (VW.frontS 0 rfl (VW.frontS 1 rfl ?_)))))))))
    refine VW.frontS 2 rfl (VW.eqv (A := hq ([[(ob_2, .cells (Node.l a0))], [(ob_3, .cells [.i 0, .i 0, .i 0, .sl .nl []])], [(ob_4, .cells [.i a0.Op, .i a0.Lo, .i a0.Hi, .sl .nl []])]]) ([.nl])) (.refl _) ?_)
    obtain ⟨o_36, hx_37, h⟩ := obind h
    refine VW.loopL (ih_law03_back_l0 _ _ _ _ _ hx_37 _ ob_2 ob_3 ob_4 .nl (.inl ⟨rfl, rfl⟩) ?_)
    · intro c_7 tk_8 ho_ hg_38
      subst ho_
      try dsimp only at h
      refine blockQ_hit (thenQ_normal (VW.q (VO.r (v := .agg [.i a0.Op, .i a0.Lo, .i a0.Hi, .sl tk_8 (c_7.map Node.c)]) (r_load_q (i := 1) rfl sz24 rfl rfl rfl) rfl rfl (VO.w (fun v H' => .any = v ∧ H' = hq ([[(ob_3, .cells [.i a0.Op, .i a0.Lo, .i a0.Hi, .sl tk_8 (c_7.map Node.c)])], [(ob_4, .cells [.i a0.Op, .i a0.Lo, .i a0.Hi, .sl tk_8 (c_7.map Node.c)])]]) ([tk_8])) (w_store_q (i := 0) rfl sz24 rfl rfl rfl rfl rfl (nle rfl) ⟨rfl, rfl⟩) rfl rfl ?_))))
      rintro _ _ ⟨rfl, rfl⟩
      refine VO.n (VW.k1 4 rfl (VW.hsub (A := hq ([[(ob_3, .cells [.i a0.Op, .i a0.Lo, .i a0.Hi, .sl tk_8 (c_7.map Node.c)])]]) ([tk_8])) (hq_sub (.cons_cons _ (.cons _ .slnil)) (.cons_cons _ .slnil)) (VW.ret ?_)))
      obtain rfl := oi h
      exact ⟨.inr rfl, rfl, _, _, 0, _, _, _, _, .agg [.i ((Node.mk a0.Op a0.Lo a0.Hi c_7).Op), .i ((Node.mk a0.Op a0.Lo a0.Hi c_7).Lo), .i ((Node.mk a0.Op a0.Lo a0.Hi c_7).Hi), .sl .fz (((Node.mk a0.Op a0.Lo a0.Hi c_7).Kids).map Node.c)], hq [] [], rfl, rfl, sz24, rfl, VLe.agg ⟨VLe.refl _, VLe.refl _, VLe.refl _, VLe.sl _ _, trivial⟩, hq_sub (.cons _ .slnil) (.cons _ .slnil), rfl, rfl⟩

theorem set_text_ok (a0 : Node) (r : ByteArray) (h : PL.set_text a0 = some r) :
    VCalls Tryd.prog 32 [.agg (Node.l a0)] (hq [] []) (fun v H => .str r = v ∧ H = hq [] []) := by
  revert h
  refine (PL.set_text.l0.mutual_partial_correctness (motive_1 := fun a0 l_0 x_1 o => ∀ (Q : Exit → Env → HH → Prop) (ob_2 : Nat) (tk_3 : Tok) (hg_4 : Tok.grow tk_3 1 (l_0.map cStr)) (hx0 : ∀ (l_5 : List ByteArray) (tk_6 : Tok), l_5 = o → Tok.grow tk_6 1 (l_5.map cStr) → Q (.exit 1) ⟨[(1, .ptr ob_2 0), (3, .sl tk_6 (l_5.map cStr))], []⟩ (hq ([[(ob_2, .cells (Node.l a0))]]) ([tk_6]))), VW Tryd.prog 57 (codeAt [1, 1, 1, 0, 1, 0, 0] (bodyOf Tryd.f32)) (thenQ (VL Tryd.prog 57 (codeAt [1, 1, 1, 0, 1, 0, 0] (bodyOf Tryd.f32)) Q) Q) ⟨[(1, .ptr ob_2 0), (3, .sl tk_3 (l_0.map cStr)), (38, .sl .fz (a0.Kids.map Node.c)), (39, .i (a0.Kids.length : Int)), (40, .i x_1)], []⟩ (hq ([[(ob_2, .cells (Node.l a0))]]) ([tk_3]))) (motive_2 := fun a0 r => VCalls Tryd.prog 32 [.agg (Node.l a0)] (hq [] []) (fun v H => .str r = v ∧ H = hq [] [])) ?_ ?_).2 a0 r
  · intro _ _ ih_set_text_l0 ih_set_text a0 l_0 x_1 o h Q ob_2 tk_3 hg_4 hx0
    refine VW.q (VO.t (v := .bool (decide (x_1 < (a0.Kids.length : Int)))) (t_cmp rfl rfl rfl rfl rfl) rfl rfl (VO.n (VW.seq ?_)))
    refine VW.cond (b := (decide (x_1 < (a0.Kids.length : Int)))) rfl (fun hc_7 => ?_) (fun hc_7 => ?_)
    · replace h := iteT h hc_7
      refine VW.skip (thenQ_normal (VW.k5 1 3 38 39 40 rfl (VW.seq (VW.block (VW.q ?_)))))
      obtain ⟨c_8, hc_8, h⟩ := obind h
      refine VO.t (v := .vptr (Node.l c_8)) (t_indexAddr rfl sl27 rfl rfl (getI_some hc_8).1 (map_get (getI_some hc_8).2 (Node.c_eq c_8)) rfl) rfl rfl (VO.r (v := .agg (Node.l c_8)) (r_load_v rfl sz29 rfl rfl) rfl rfl (VO.w (fun v H' => ∃ ob_9, .ptr ob_9 0 = v ∧ H' = hq ([[(ob_9, .cells [.i 0, .i 0, .i 0, .sl .nl []])], [(ob_2, .cells (Node.l a0))]]) ([tk_3])) (w_alloc_q rfl zt29 (fun ob => ⟨ob, rfl, rfl⟩)) rfl rfl ?_))
      rintro _ _ ⟨ob_9, rfl, rfl⟩
      refine VO.w (fun v H' => .any = v ∧ H' = hq ([[(ob_9, .cells (Node.l c_8))], [(ob_2, .cells (Node.l a0))]]) ([tk_3])) (w_store_q (i := 0) rfl sz29 rfl rfl rfl rfl rfl (nle rfl) ⟨rfl, rfl⟩) rfl rfl ?_
      rintro _ _ ⟨rfl, rfl⟩
      refine VO.n (VW.k6 1 3 38 39 40 5 rfl (VW.region (VO.m rfl rfl (VO.r (v := .agg (Node.l c_8)) (r_load_q (i := 0) rfl sz29 rfl rfl rfl) rfl rfl ?_))))
      obtain ⟨rv_10, hx_11, h⟩ := obind h
      refine VO.k (w_keep rfl fn32 rfl ⟨_, _, rfl, rfl, rfl⟩ (ih_set_text _ _ hx_11)) rfl rfl (VO.w (fun v H' => ∃ t_12, .sl (.cap t_12 1) (([rv_10]).map cStr) = v ∧ H' = hq ([[(ob_9, .cells (Node.l c_8))], [(ob_2, .cells (Node.l a0))]]) ([.cap t_12 1, tk_3])) (w_buildSlice (l := [[.str rv_10]]) rfl el86 ⟨rfl, _, _, rfl, rfl, rfl, rfl, rfl⟩ rfl (nle rfl) (fun tk => ⟨tk, by simp only [List.map_cons, List.map_nil, cInt, cBool, cStr, cSl], rfl⟩)) rfl rfl ?_)
      rintro _ _ ⟨t_12, rfl, rfl⟩
      obtain ⟨_, hr_13, h⟩ := obind h
      refine VO.w (fun v H' => ∃ t_14, .sl (.cap t_14 1) ((l_0 ++ ([rv_10])).map cStr) = v ∧ H' = hq ([[(ob_9, .cells (Node.l c_8))], [(ob_2, .cells (Node.l a0))]]) ([.cap t_14 1, .cap t_12 1])) (w_append (objs := List.flatten [[(ob_9, .cells (Node.l c_8))], [(ob_2, .cells (Node.l a0))]]) (tks := [.cap t_12 1, tk_3]) (i := 1) rfl el86 rfl rfl hg_4 rfl (elemsOK_map cStr_ok _) (by have := room_some hr_13; simpa using this) (nle rfl) (fun t => ⟨t, by simp only [List.map_append, List.map_nil, List.nil_append], rfl⟩)) rfl rfl ?_
      rintro _ _ ⟨t_14, rfl, rfl⟩
      refine VO.a (v := .sl (.cap t_14 1) ((l_0 ++ ([rv_10])).map cStr)) rfl rfl (VO.nil (blockQ_normal (thenQ_normal (VW.k5 1 38 39 40 3 rfl (VW.hsub (A := hq ([[(ob_2, .cells (Node.l a0))]]) ([.cap t_14 1])) (hq_sub (.cons _ (.cons_cons _ .slnil)) (.cons_cons _ (.cons _ .slnil))) (VW.region (VO.t (v := .i (w64 (x_1 + 1))) (t_add rfl rfl (fun _ _ => rfl) rfl) rfl rfl (VO.m rfl rfl (VO.nil ?_)))))))))
      refine thenQ_normal (VL.round ?_)
      refine VW.k5 1 3 38 39 40 rfl ?_
      exact ih_set_text_l0 _ _ _ _ h _ ob_2 (.cap t_14 1) (.inr ⟨_, rfl⟩) hx0
    · replace h := iteF h hc_7
      refine VW.k2 1 3 rfl (VW.exit (thenQ_exit (thenQ_exit ?_)))
      obtain rfl := oi h
      exact hx0 _ tk_3 rfl hg_4
  · intro _ _ ih_set_text_l0 ih_set_text a0 r h 
    refine VCalls.of_body 57 [2] Tryd.func32 rfl rfl rfl (nle rfl) (VW.k1 0 rfl (VW.q (VO.w (fun v H' => ∃ ob_2, .ptr ob_2 0 = v ∧ H' = hq ([[(ob_2, .cells (Node.l a0))]]) []) (w_box_q rfl rfl rfl (fun ob => ⟨ob, rfl, rfl⟩)) rfl rfl ?_)))
    rintro _ _ ⟨ob_2, rfl, rfl⟩
    refine VO.a (v := .str k_) rfl (fun _ _ => rfl) (VO.n (VW.k1 1 rfl (VW.seq (VW.q (VO.t (v := .ptr ob_2 0) (t_fieldAddr_ptr rfl fi29_0 rfl rfl) rfl rfl (VO.r (v := .i a0.Op) (r_load_q (i := 0) rfl sz3 rfl rfl rfl) rfl rfl (VO.n (VW.k2 1 7 rfl (VW.block ?_)))))))))
    refine VW.q (VO.t (v := .bool (a0.Op == 0)) (t_cmp rfl rfl rfl (fun _ _ => rfl) rfl) rfl rfl (VO.a (v := .bool (a0.Op == 0)) rfl rfl (VO.n (VW.k3 1 7 8 rfl ?_))))
    refine VW.cond (b := (a0.Op == 0)) rfl (fun hc_15 => ?_) (fun hc_15 => ?_)
    · replace h := iteT h hc_15
      refine VW.seq (VW.q (VO.t (v := .ptr ob_2 1) (t_fieldAddr_ptr rfl fi29_1 rfl rfl) rfl rfl (VO.r (v := .i a0.Lo) (r_load_q (i := 0) rfl sz3 rfl rfl rfl) rfl rfl (VO.t (v := .ptr ob_2 2) (t_fieldAddr_ptr rfl fi29_2 rfl rfl) rfl rfl (VO.r (v := .i a0.Hi) (r_load_q (i := 0) rfl sz3 rfl rfl rfl) rfl rfl (VO.t (v := .bool (a0.Lo == a0.Hi)) (t_cmp rfl rfl rfl rfl rfl) rfl rfl (VO.n (VW.k2 1 14 rfl ?_))))))))
      refine VW.cond (b := (a0.Lo == a0.Hi)) rfl (fun hc_16 => ?_) (fun hc_16 => ?_)
      · replace h := iteT h hc_16
        refine VW.q (VO.t (v := .ptr ob_2 1) (t_fieldAddr_ptr rfl fi29_1 rfl rfl) rfl rfl (VO.r (v := .i a0.Lo) (r_load_q (i := 0) rfl sz3 rfl rfl rfl) rfl rfl ?_))
        obtain ⟨rv_17, hx_18, h⟩ := obind h
        refine VO.k (w_keep rfl fn50 rfl ⟨_, _, rfl, rfl, rfl⟩ (strconv_Itoa_ok _ _ hx_18)) rfl rfl (VO.a (v := .str rv_17) rfl rfl (VO.n (VW.ret (thenQ_ret (blockQ_ret (thenQ_ret ?_))))))
        cases oi h
        exact ret0 rfl rfl ⟨rfl, rfl⟩
      · replace h := iteF h hc_16
        refine VW.skip (thenQ_normal (VW.k1 1 rfl (VW.seq (VW.draw 9 mix rfl (VA.t (i := 0) (v := .ptr ob_2 1) rfl (t_fieldAddr_ptr rfl fi29_1 rfl rfl) (.inl rfl) (by kernel_rfl) (VA.keeps (VK.r (v := .i a0.Lo) 1 19 [] rfl rfl (r_load_q (i := 0) rfl sz3 rfl rfl rfl) (.inl rfl) ?_)))))))
        obtain ⟨rv_19, hx_20, h⟩ := obind h
        refine VK.w 2 20 [1] rfl rfl (w_keep rfl fn50 rfl ⟨_, _, rfl, rfl, rfl⟩ (strconv_Itoa_ok _ _ hx_20)) (.inl rfl) ?_
        obtain ⟨u_21, h⟩ := ite_some h
        refine VK.t (v := .str (rv_19 ++ k__46_46)) 3 21 [2] rfl rfl (t_sadd rfl rfl (fun _ _ => rfl) u_21) (.inl rfl) (VK.t (v := .ptr ob_2 2) 4 22 [] rfl rfl (t_fieldAddr_ptr rfl fi29_2 rfl rfl) (.inl rfl) (VK.r (v := .i a0.Hi) 5 23 [4] rfl rfl (r_load_q (i := 0) rfl sz3 rfl rfl rfl) (.inl rfl) ?_))
        obtain ⟨rv_22, hx_23, h⟩ := obind h
        refine VK.w 6 24 [5] rfl rfl (w_keep rfl fn50 rfl ⟨_, _, rfl, rfl, rfl⟩ (strconv_Itoa_ok _ _ hx_23)) (.inl rfl) ?_
        obtain ⟨u_24, h⟩ := ite_some h
        refine VK.t (v := .str ((rv_19 ++ k__46_46) ++ rv_22)) 7 25 [3, 6] rfl rfl (t_sadd rfl rfl rfl u_24) (.inl rfl) (VK.t (v := .str ((rv_19 ++ k__46_46) ++ rv_22)) 8 2 [7] rfl rfl (t_assign rfl rfl) (.inl rfl) (VK.done 0 rfl (by kernel_rfl) rfl (VA.done (by kernel_rfl) (thenQ_normal (VW.ret (blockQ_ret (thenQ_ret ?_)))))))
        cases oi h
        exact ret0 rfl rfl ⟨rfl, rfl⟩
    · replace h := iteF h hc_15
      refine VW.q (VO.t (v := .bool (a0.Op == 4)) (t_cmp rfl rfl rfl (fun _ _ => rfl) rfl) rfl rfl (VO.a (v := .bool (a0.Op == 4)) rfl rfl (VO.n (VW.k3 1 7 26 rfl ?_))))
      refine VW.cond (b := (a0.Op == 4)) rfl (fun hc_25 => ?_) (fun hc_25 => ?_)
      · replace h := iteT h hc_25
        refine VW.q (VO.a (v := .str k_ALL) rfl (fun _ _ => rfl) (VO.n (VW.ret (blockQ_ret (thenQ_ret ?_)))))
        cases oi h
        exact ret0 rfl rfl ⟨rfl, rfl⟩
      · replace h := iteF h hc_25
        refine VW.q (VO.t (v := .bool (a0.Op == 5)) (t_cmp rfl rfl rfl (fun _ _ => rfl) rfl) rfl rfl (VO.a (v := .bool (a0.Op == 5)) rfl rfl (VO.n (VW.k2 1 28 rfl ?_))))
        refine VW.cond (b := (a0.Op == 5)) rfl (fun hc_26 => ?_) (fun hc_26 => ?_)
        · replace h := iteT h hc_26
          refine VW.q (VO.t (v := .ptr ob_2 3) (t_fieldAddr_ptr rfl fi29_3 rfl rfl) rfl rfl (VO.r (v := .sl .fz (a0.Kids.map Node.c)) (r_load_q (i := 0) rfl sz27 rfl rfl rfl) rfl rfl ?_))
          obtain ⟨c_27, hc_27, h⟩ := obind h
          refine VO.t (v := .vptr (Node.l c_27)) (t_indexAddr rfl sl27 rfl (fun _ _ => rfl) (getI_some hc_27).1 (map_get (getI_some hc_27).2 (Node.c_eq c_27)) rfl) rfl rfl (VO.r (v := .agg (Node.l c_27)) (r_load_v rfl sz29 rfl rfl) rfl rfl ?_)
          obtain ⟨rv_28, hx_29, h⟩ := obind h
          refine VO.k (w_keep rfl fn32 rfl ⟨_, _, rfl, rfl, rfl⟩ (ih_set_text _ _ hx_29)) rfl rfl ?_
          obtain ⟨u_30, h⟩ := ite_some h
          refine VO.t (v := .str (k__91 ++ rv_28)) (t_sadd rfl (fun _ _ => rfl) rfl u_30) rfl rfl ?_
          obtain ⟨u_31, h⟩ := ite_some h
          refine VO.t (v := .str ((k__91 ++ rv_28) ++ k__44_32_46_46_46_93)) (t_sadd rfl rfl (fun _ _ => rfl) u_31) rfl rfl (VO.a (v := .str ((k__91 ++ rv_28) ++ k__44_32_46_46_46_93)) rfl rfl (VO.n (VW.ret (blockQ_ret (thenQ_ret ?_)))))
          cases oi h
          exact ret0 rfl rfl ⟨rfl, rfl⟩
        · replace h := iteF h hc_26
          refine VW.skip (blockQ_normal (thenQ_normal (VW.k1 1 rfl (VW.q (VO.a (v := .sl .nl []) rfl (fun _ _ => .inl ⟨rfl, .inl rfl⟩) (VO.n (VW.seq (VW.q (VO.t (v := .ptr ob_2 3) (t_fieldAddr_ptr rfl fi29_3 rfl rfl) rfl rfl ?_)))))))))
          refine VO.r (v := .sl .fz (a0.Kids.map Node.c)) (r_load_q (i := 0) rfl sz27 rfl rfl rfl) rfl rfl (VO.t (v := .i (a0.Kids.length : Int)) (t_len rfl ⟨_, Tryd.underlying27⟩ rfl (by rw [List.length_map])) rfl rfl (VO.m (v := .i 0) rfl (fun _ _ => rfl) (VO.n (VW.k5 1 3 38 39 40 rfl (VW.block (VW.k5 1 3 38 39 40 rfl (VW.eqv (A := hq ([[(ob_2, .cells (Node.l a0))]]) ([.nl])) (.refl _) ?_)))))))
          obtain ⟨o_32, hx_33, h⟩ := obind h
          refine VW.loopL (ih_set_text_l0 _ _ _ _ hx_33 _ ob_2 .nl (.inl ⟨rfl, rfl⟩) ?_)
          · intro l_5 tk_6 ho_ hg_34
            subst ho_
            try dsimp only at h
            refine blockQ_hit (thenQ_normal (VW.q (VO.m rfl rfl (VO.t (v := .ptr ob_2 0) (t_fieldAddr_ptr rfl fi29_0 rfl rfl) rfl rfl (VO.r (v := .i a0.Op) (r_load_q (i := 0) rfl sz3 rfl rfl rfl) rfl rfl ?_)))))
            obtain ⟨rv_35, hx_36, h⟩ := obind h
            refine VO.k (w_keep rfl fn52 rfl ⟨_, _, rfl, rfl, rfl⟩ (set_joint_ok _ _ hx_36)) rfl rfl (VO.weak (d := 50) (v' := .sl .fz (l_5.map cStr)) rfl (VLe.sl _ _) ?_)
            obtain ⟨rv_37, hx_38, h⟩ := obind h
            refine VO.k (w_keep rfl fn51 rfl ⟨_, _, rfl, rfl, _, _, rfl, rfl, rfl⟩ (strings_Join_ok _ _ _ hx_38)) rfl rfl ?_
            obtain ⟨u_39, h⟩ := ite_some h
            refine VO.t (v := .str (k__40 ++ rv_37)) (t_sadd rfl (fun _ _ => rfl) rfl u_39) rfl rfl ?_
            obtain ⟨u_40, h⟩ := ite_some h
            refine VO.t (v := .str ((k__40 ++ rv_37) ++ k__41)) (t_sadd rfl rfl (fun _ _ => rfl) u_40) rfl rfl (VO.a (v := .str ((k__40 ++ rv_37) ++ k__41)) rfl rfl (VO.n (VW.ret ?_)))
            cases oi h
            exact ret0 rfl rfl ⟨rfl, rfl⟩

theorem set_Text_ok (a0 : Node) (r : ByteArray × Int) (h : PL.set_Text a0 = some r) :
    VCalls Tryd.prog 16 [.agg (Node.l a0)] (hq [] []) (fun v H => .tup [.str r.1, .i r.2] = v ∧ H = hq [] []) := by
  unfold PL.set_Text at h
  refine VCalls.of_body 12 [2, 3] Tryd.func16 rfl rfl rfl (nle rfl) (VW.k1 0 rfl (VW.q (VO.w (fun v H' => ∃ ob_0, .ptr ob_0 0 = v ∧ H' = hq ([[(ob_0, .cells (Node.l a0))]]) []) (w_box_q rfl rfl rfl (fun ob => ⟨ob, rfl, rfl⟩)) rfl rfl ?_)))
  rintro _ _ ⟨ob_0, rfl, rfl⟩
  refine VO.a (v := .str k_) rfl (fun _ _ => rfl) (VO.a (v := .i 0) rfl (fun _ _ => rfl) (VO.n (VW.k1 1 rfl (VW.seq (VW.q (VO.r (v := .agg (Node.l a0)) (r_load_q (i := 0) rfl sz29 rfl rfl rfl) rfl rfl ?_))))))
  obtain ⟨rv_1, hx_2, h⟩ := obind h
  refine VO.k (w_keep rfl fn22 rfl ⟨_, _, rfl, rfl, rfl⟩ (set_check_ok _ _ hx_2)) rfl rfl (VO.a (v := .i rv_1) rfl rfl (VO.n (VW.k2 1 4 rfl (VW.q (VO.m rfl rfl (VO.t (v := .bool (rv_1 != 0)) (t_cmp rfl rfl rfl (fun _ _ => rfl) rfl) rfl rfl (VO.n (VW.k3 1 4 8 rfl ?_))))))))
  refine VW.cond (b := (rv_1 != 0)) rfl (fun hc_3 => ?_) (fun hc_3 => ?_)
  · replace h := iteT h hc_3
    refine VW.q (VO.m rfl rfl (VO.a (v := .str k_) rfl (fun _ _ => rfl) (VO.a (v := .i rv_1) rfl rfl (VO.n (VW.k2 2 3 rfl (VW.hsub (A := hq [] []) (hq_sub (.cons _ .slnil) .slnil) (VW.ret (thenQ_ret ?_))))))))
    obtain rfl := oi h
    exact ⟨.inr rfl, rfl, _, .tup [.str k_, .i rv_1], hq [] [], ⟨_, _, rfl, rfl, rfl⟩, VLe.tup ⟨VLe.refl _, VLe.refl _, trivial⟩, hq_sub .slnil .slnil, rfl, rfl⟩
  · replace h := iteF h hc_3
    refine VW.skip (thenQ_normal (VW.k1 1 rfl (VW.q (VO.r (v := .agg (Node.l a0)) (r_load_q (i := 0) rfl sz29 rfl rfl rfl) rfl rfl ?_))))
    obtain ⟨rv_4, hx_5, h⟩ := obind h
    refine VO.k (w_keep rfl fn32 rfl ⟨_, _, rfl, rfl, rfl⟩ (set_text_ok _ _ hx_5)) rfl rfl (VO.a (v := .str rv_4) rfl rfl (VO.a (v := .i 0) rfl (fun _ _ => rfl) (VO.n (VW.k2 2 3 rfl (VW.hsub (A := hq [] []) (hq_sub (.cons _ .slnil) .slnil) (VW.ret ?_))))))
    obtain rfl := oi h
    exact ⟨.inr rfl, rfl, _, .tup [.str rv_4, .i 0], hq [] [], ⟨_, _, rfl, rfl, rfl⟩, VLe.tup ⟨VLe.refl _, VLe.refl _, trivial⟩, hq_sub .slnil .slnil, rfl, rfl⟩

theorem ref03_text_ok (a0 : Node) (r : ByteArray) (h : PL.ref03_text a0 = some r) :
    VCalls Tryd.prog 33 [.agg (Node.l a0)] (hq [] []) (fun v H => .str r = v ∧ H = hq [] []) := by
  revert h
  refine (PL.ref03_text.l0.mutual_partial_correctness (motive_1 := fun a0 s_0 i_1 o => ∀ (Q : Exit → Env → HH → Prop) (ob_2 : Nat) (hx0 : ∀ (s_3 : ByteArray), s_3 = o → Q (.exit 0) ⟨[(3, .str s_3)], []⟩ (hq [] [])), VW Tryd.prog 67 (codeAt [1, 1, 1, 1, 1, 0, 1, 0, 0] (bodyOf Tryd.f33)) (thenQ (VL Tryd.prog 67 (codeAt [1, 1, 1, 1, 1, 0, 1, 0, 0] (bodyOf Tryd.f33)) Q) Q) ⟨[(1, .ptr ob_2 0), (3, .str s_0), (4, .i i_1)], []⟩ (hq ([[(ob_2, .cells (Node.l a0))]]) [])) (motive_2 := fun a0 r => VCalls Tryd.prog 33 [.agg (Node.l a0)] (hq [] []) (fun v H => .str r = v ∧ H = hq [] [])) ?_ ?_).2 a0 r
  · intro _ _ ih_ref03_text_l0 ih_ref03_text a0 s_0 i_1 o h Q ob_2 hx0
    refine VW.seq (VW.q (VO.m rfl rfl (VO.t (v := .ptr ob_2 3) (t_fieldAddr_ptr rfl fi24_3 rfl rfl) rfl rfl (VO.r (v := .sl .fz (a0.Kids.map Node.c)) (r_load_q (i := 0) rfl sz22 rfl rfl rfl) rfl rfl (VO.t (v := .i (a0.Kids.length : Int)) (t_len rfl ⟨_, Tryd.underlying22⟩ rfl (by rw [List.length_map])) rfl rfl (VO.t (v := .bool (decide (i_1 < (a0.Kids.length : Int)))) (t_cmp rfl rfl rfl rfl rfl) rfl rfl (VO.n (VW.k4 1 3 4 41 rfl ?_))))))))
    refine VW.cond (b := (decide (i_1 < (a0.Kids.length : Int)))) rfl (fun hc_4 => ?_) (fun hc_4 => ?_)
    · replace h := iteT h hc_4
      refine VW.skip (thenQ_normal (VW.k3 1 3 4 rfl (VW.seq (VW.block (VW.seq (VW.q (VO.m rfl rfl (VO.t (v := .bool (decide (i_1 > 0))) (t_cmp rfl rfl rfl (fun _ _ => rfl) rfl) rfl rfl (VO.n ?_)))))))))
      refine VW.k4 1 3 4 45 rfl ?_
      obtain ⟨o_5, h, hx_6⟩ := obind h
      refine VW.joinQ (E := ByteArray) (I := fun s_7 => s_7 = o_5 ∧ True) (env' := fun s_7 => ⟨[(1, .ptr ob_2 0), (4, .i i_1), (3, .str s_7)], []⟩) (H' := fun s_7 => hq ([[(ob_2, .cells (Node.l a0))]]) []) ?_ (fun J_8 => ?_)
      · rintro s_7 ⟨ho_, _⟩
        subst ho_
        replace h := hx_6
        clear hx_6
        try dsimp only at h
        show VW _ _ _ _ ⟨[(1, .ptr ob_2 0), (4, .i i_1), (3, .str s_7)], []⟩ (hq ([[(ob_2, .cells (Node.l a0))]]) [])
        refine VW.region (VO.m rfl rfl (VO.t (v := .ptr ob_2 3) (t_fieldAddr_ptr rfl fi24_3 rfl rfl) rfl rfl (VO.r (v := .sl .fz (a0.Kids.map Node.c)) (r_load_q (i := 0) rfl sz22 rfl rfl rfl) rfl rfl (VO.m rfl rfl ?_))))
        obtain ⟨c_9, hc_9, h⟩ := obind h
        refine VO.t (v := .vptr (Node.l c_9)) (t_indexAddr rfl sl22 rfl rfl (getI_some hc_9).1 (map_get (getI_some hc_9).2 (Node.c_eq c_9)) rfl) rfl rfl (VO.r (v := .agg (Node.l c_9)) (r_load_v rfl sz24 rfl rfl) rfl rfl ?_)
        obtain ⟨rv_10, hx_11, h⟩ := obind h
        refine VO.k (w_keep rfl fn33 rfl ⟨_, _, rfl, rfl, rfl⟩ (ih_ref03_text _ _ hx_11)) rfl rfl ?_
        obtain ⟨u_12, h⟩ := ite_some h
        refine VO.t (v := .str (s_7 ++ rv_10)) (t_sadd rfl rfl rfl u_12) rfl rfl (VO.a (v := .str (s_7 ++ rv_10)) rfl rfl (VO.nil (blockQ_normal (thenQ_normal (VW.k3 1 4 3 rfl (VW.region (VO.m rfl rfl (VO.t (v := .i (w64 (i_1 + 1))) (t_add rfl rfl (fun _ _ => rfl) rfl) rfl rfl (VO.a (v := .i (w64 (i_1 + 1))) rfl rfl ?_)))))))))
        refine VO.nil (thenQ_normal (VL.round ?_))
        refine VW.k3 1 3 4 rfl ?_
        exact ih_ref03_text_l0 _ _ _ _ h _ ob_2 hx0
      · refine VW.cond (b := (decide (i_1 > 0))) rfl (fun hc_13 => ?_) (fun hc_13 => ?_)
        · replace h := iteT h hc_13
          refine VW.region (VO.m rfl rfl ?_)
          obtain ⟨u_14, h⟩ := ite_some h
          refine VO.t (v := .str (s_0 ++ k__32)) (t_sadd rfl rfl (fun _ _ => rfl) u_14) rfl rfl (VO.t (v := .ptr ob_2 0) (t_fieldAddr_ptr rfl fi24_0 rfl rfl) rfl rfl (VO.r (v := .i a0.Op) (r_load_q (i := 0) rfl sz3 rfl rfl rfl) rfl rfl (VO.t (v := .i (w64 (a0.Op - 1))) (t_sub rfl rfl (fun _ _ => rfl) rfl) rfl rfl (VO.t (v := .ptr ob_2 0) (t_fieldAddr_ptr rfl fi24_0 rfl rfl) rfl rfl (VO.r (v := .i a0.Op) (r_load_q (i := 0) rfl sz3 rfl rfl rfl) rfl rfl ?_)))))
          obtain ⟨ha_15, h⟩ := ite_some h
          obtain ⟨hb_16, h⟩ := ite_some h
          obtain ⟨hc_17, h⟩ := ite_some h
          refine VO.t (v := .str (k__124_94_45.extract (w64 (a0.Op - 1)).toNat a0.Op.toNat)) (t_sslice (i := w64 (a0.Op - 1)) (j := a0.Op) rfl Tryd.underlying9 (fun _ _ => rfl) ⟨_, rfl⟩ ⟨_, rfl⟩ ha_15 hb_16 hc_17 rfl) rfl rfl ?_
          obtain ⟨u_18, h⟩ := ite_some h
          refine VO.t (v := .str ((s_0 ++ k__32) ++ (k__124_94_45.extract (w64 (a0.Op - 1)).toNat a0.Op.toNat))) (t_sadd rfl rfl rfl u_18) rfl rfl ?_
          obtain ⟨u_19, h⟩ := ite_some h
          refine VO.t (v := .str (((s_0 ++ k__32) ++ (k__124_94_45.extract (w64 (a0.Op - 1)).toNat a0.Op.toNat)) ++ k__32)) (t_sadd rfl rfl (fun _ _ => rfl) u_19) rfl rfl (VO.a (v := .str (((s_0 ++ k__32) ++ (k__124_94_45.extract (w64 (a0.Op - 1)).toNat a0.Op.toNat)) ++ k__32)) rfl rfl (VO.subK (.c 1 rfl (.c 4 rfl (.c 3 rfl .n))) rfl (VO.nil ?_)))
          exact thenQ_normal (J_8 (((s_0 ++ k__32) ++ (k__124_94_45.extract (w64 (a0.Op - 1)).toNat a0.Op.toNat)) ++ k__32) ⟨Option.some.inj h, trivial⟩)
        · replace h := iteF h hc_13
          refine VW.k3 1 4 3 rfl (VW.skip ?_)
          exact thenQ_normal (J_8 s_0 ⟨Option.some.inj h, trivial⟩)
    · replace h := iteF h hc_4
      refine VW.k1 3 rfl (VW.hsub (A := hq [] []) (hq_sub (.cons _ .slnil) .slnil) (VW.exit (thenQ_exit (thenQ_exit ?_))))
      obtain rfl := oi h
      exact hx0 _ rfl
  · intro _ _ ih_ref03_text_l0 ih_ref03_text a0 r h 
    refine VCalls.of_body 67 [2] Tryd.func33 rfl rfl rfl (nle rfl) (VW.k1 0 rfl (VW.q (VO.w (fun v H' => ∃ ob_2, .ptr ob_2 0 = v ∧ H' = hq ([[(ob_2, .cells (Node.l a0))]]) []) (w_box_q rfl rfl rfl (fun ob => ⟨ob, rfl, rfl⟩)) rfl rfl ?_)))
    rintro _ _ ⟨ob_2, rfl, rfl⟩
    refine VO.a (v := .str k_) rfl (fun _ _ => rfl) (VO.n (VW.k1 1 rfl (VW.seq (VW.q (VO.t (v := .ptr ob_2 0) (t_fieldAddr_ptr rfl fi24_0 rfl rfl) rfl rfl (VO.r (v := .i a0.Op) (r_load_q (i := 0) rfl sz3 rfl rfl rfl) rfl rfl (VO.t (v := .bool (a0.Op == 0)) (t_cmp rfl rfl rfl (fun _ _ => rfl) rfl) rfl rfl (VO.n (VW.k2 1 7 rfl ?_)))))))))
    refine VW.cond (b := (a0.Op == 0)) rfl (fun hc_20 => ?_) (fun hc_20 => ?_)
    · replace h := iteT h hc_20
      refine VW.seq (VW.q (VO.t (v := .ptr ob_2 1) (t_fieldAddr_ptr rfl fi24_1 rfl rfl) rfl rfl (VO.r (v := .i a0.Lo) (r_load_q (i := 0) rfl sz3 rfl rfl rfl) rfl rfl (VO.t (v := .ptr ob_2 2) (t_fieldAddr_ptr rfl fi24_2 rfl rfl) rfl rfl (VO.r (v := .i a0.Hi) (r_load_q (i := 0) rfl sz3 rfl rfl rfl) rfl rfl (VO.t (v := .bool (a0.Lo == a0.Hi)) (t_cmp rfl rfl rfl rfl rfl) rfl rfl (VO.n (VW.k2 1 12 rfl ?_))))))))
      refine VW.cond (b := (a0.Lo == a0.Hi)) rfl (fun hc_21 => ?_) (fun hc_21 => ?_)
      · replace h := iteT h hc_21
        refine VW.q (VO.t (v := .ptr ob_2 1) (t_fieldAddr_ptr rfl fi24_1 rfl rfl) rfl rfl (VO.r (v := .i a0.Lo) (r_load_q (i := 0) rfl sz3 rfl rfl rfl) rfl rfl ?_))
        obtain ⟨rv_22, hx_23, h⟩ := obind h
        refine VO.k (w_keep rfl fn50 rfl ⟨_, _, rfl, rfl, rfl⟩ (strconv_Itoa_ok _ _ hx_23)) rfl rfl (VO.a (v := .str rv_22) rfl rfl (VO.n (VW.ret (thenQ_ret (thenQ_ret ?_)))))
        cases oi h
        exact ret0 rfl rfl ⟨rfl, rfl⟩
      · replace h := iteF h hc_21
        refine VW.skip (thenQ_normal (VW.k1 1 rfl (VW.seq (VW.draw 9 mix rfl (VA.t (i := 0) (v := .ptr ob_2 1) rfl (t_fieldAddr_ptr rfl fi24_1 rfl rfl) (.inl rfl) (by kernel_rfl) (VA.keeps (VK.r (v := .i a0.Lo) 1 17 [] rfl rfl (r_load_q (i := 0) rfl sz3 rfl rfl rfl) (.inl rfl) ?_)))))))
        obtain ⟨rv_24, hx_25, h⟩ := obind h
        refine VK.w 2 18 [1] rfl rfl (w_keep rfl fn50 rfl ⟨_, _, rfl, rfl, rfl⟩ (strconv_Itoa_ok _ _ hx_25)) (.inl rfl) ?_
        obtain ⟨u_26, h⟩ := ite_some h
        refine VK.t (v := .str (rv_24 ++ k__46_46)) 3 19 [2] rfl rfl (t_sadd rfl rfl (fun _ _ => rfl) u_26) (.inl rfl) (VK.t (v := .ptr ob_2 2) 4 20 [] rfl rfl (t_fieldAddr_ptr rfl fi24_2 rfl rfl) (.inl rfl) (VK.r (v := .i a0.Hi) 5 21 [4] rfl rfl (r_load_q (i := 0) rfl sz3 rfl rfl rfl) (.inl rfl) ?_))
        obtain ⟨rv_27, hx_28, h⟩ := obind h
        refine VK.w 6 22 [5] rfl rfl (w_keep rfl fn50 rfl ⟨_, _, rfl, rfl, rfl⟩ (strconv_Itoa_ok _ _ hx_28)) (.inl rfl) ?_
        obtain ⟨u_29, h⟩ := ite_some h
        refine VK.t (v := .str ((rv_24 ++ k__46_46) ++ rv_27)) 7 23 [3, 6] rfl rfl (t_sadd rfl rfl rfl u_29) (.inl rfl) (VK.t (v := .str ((rv_24 ++ k__46_46) ++ rv_27)) 8 2 [7] rfl rfl (t_assign rfl rfl) (.inl rfl) (VK.done 0 rfl (by kernel_rfl) rfl (VA.done (by kernel_rfl) (thenQ_normal (VW.ret (thenQ_ret ?_))))))
        cases oi h
        exact ret0 rfl rfl ⟨rfl, rfl⟩
    · replace h := iteF h hc_20
      refine VW.skip (thenQ_normal (VW.k1 1 rfl (VW.seq (VW.q (VO.t (v := .ptr ob_2 0) (t_fieldAddr_ptr rfl fi24_0 rfl rfl) rfl rfl (VO.r (v := .i a0.Op) (r_load_q (i := 0) rfl sz3 rfl rfl rfl) rfl rfl (VO.t (v := .bool (a0.Op == 4)) (t_cmp rfl rfl rfl (fun _ _ => rfl) rfl) rfl rfl (VO.n (VW.k2 1 26 rfl ?_)))))))))
      refine VW.cond (b := (a0.Op == 4)) rfl (fun hc_30 => ?_) (fun hc_30 => ?_)
      · replace h := iteT h hc_30
        refine VW.q (VO.a (v := .str k_ALL) rfl (fun _ _ => rfl) (VO.n (VW.ret (thenQ_ret ?_))))
        cases oi h
        exact ret0 rfl rfl ⟨rfl, rfl⟩
      · replace h := iteF h hc_30
        refine VW.skip (thenQ_normal (VW.k1 1 rfl (VW.seq (VW.q (VO.t (v := .ptr ob_2 0) (t_fieldAddr_ptr rfl fi24_0 rfl rfl) rfl rfl (VO.r (v := .i a0.Op) (r_load_q (i := 0) rfl sz3 rfl rfl rfl) rfl rfl (VO.t (v := .bool (a0.Op == 5)) (t_cmp rfl rfl rfl (fun _ _ => rfl) rfl) rfl rfl (VO.n (VW.k2 1 29 rfl ?_)))))))))
        refine VW.cond (b := (a0.Op == 5)) rfl (fun hc_31 => ?_) (fun hc_31 => ?_)
        · replace h := iteT h hc_31
          refine VW.q (VO.t (v := .ptr ob_2 3) (t_fieldAddr_ptr rfl fi24_3 rfl rfl) rfl rfl (VO.r (v := .sl .fz (a0.Kids.map Node.c)) (r_load_q (i := 0) rfl sz22 rfl rfl rfl) rfl rfl ?_))
          obtain ⟨c_32, hc_32, h⟩ := obind h
          refine VO.t (v := .vptr (Node.l c_32)) (t_indexAddr rfl sl22 rfl (fun _ _ => rfl) (getI_some hc_32).1 (map_get (getI_some hc_32).2 (Node.c_eq c_32)) rfl) rfl rfl (VO.r (v := .agg (Node.l c_32)) (r_load_v rfl sz24 rfl rfl) rfl rfl ?_)
          obtain ⟨rv_33, hx_34, h⟩ := obind h
          refine VO.k (w_keep rfl fn33 rfl ⟨_, _, rfl, rfl, rfl⟩ (ih_ref03_text _ _ hx_34)) rfl rfl ?_
          obtain ⟨u_35, h⟩ := ite_some h
          refine VO.t (v := .str (k__91 ++ rv_33)) (t_sadd rfl (fun _ _ => rfl) rfl u_35) rfl rfl ?_
          obtain ⟨u_36, h⟩ := ite_some h
          refine VO.t (v := .str ((k__91 ++ rv_33) ++ k__44_32_46_46_46_93)) (t_sadd rfl rfl (fun _ _ => rfl) u_36) rfl rfl (VO.a (v := .str ((k__91 ++ rv_33) ++ k__44_32_46_46_46_93)) rfl rfl (VO.n (VW.ret (thenQ_ret ?_))))
          cases oi h
          exact ret0 rfl rfl ⟨rfl, rfl⟩
        · replace h := iteF h hc_31
          refine VW.skip (thenQ_normal (VW.k1 1 rfl (VW.q (VO.a (v := .str k_) rfl (fun _ _ => rfl) (VO.n (VW.seq (VW.q (VO.a (v := .i 0) rfl (fun _ _ => rfl) (VO.n ?_)))))))))
          refine VW.block (VW.k3 1 3 4 rfl ?_)
          obtain ⟨o_37, hx_38, h⟩ := obind h
          refine VW.loopL (ih_ref03_text_l0 _ _ _ _ hx_38 _ ob_2 ?_)
          · intro s_3 ho_
            subst ho_
            try dsimp only at h
            refine blockQ_hit (thenQ_normal (VW.q (VO.m rfl rfl ?_)))
            obtain ⟨u_39, h⟩ := ite_some h
            refine VO.t (v := .str (k__40 ++ s_3)) (t_sadd rfl (fun _ _ => rfl) rfl u_39) rfl rfl ?_
            obtain ⟨u_40, h⟩ := ite_some h
            refine VO.t (v := .str ((k__40 ++ s_3) ++ k__41)) (t_sadd rfl rfl (fun _ _ => rfl) u_40) rfl rfl (VO.a (v := .str ((k__40 ++ s_3) ++ k__41)) rfl rfl (VO.n (VW.ret ?_)))
            cases oi h
            exact ret0 rfl rfl ⟨rfl, rfl⟩

theorem ref03_Text_ok (a0 : Node) (r : ByteArray × Int) (h : PL.ref03_Text a0 = some r) :
    VCalls Tryd.prog 17 [.agg (Node.l a0)] (hq [] []) (fun v H => .tup [.str r.1, .i r.2] = v ∧ H = hq [] []) := by
  unfold PL.ref03_Text at h
  refine VCalls.of_body 12 [2, 3] Tryd.func17 rfl rfl rfl (nle rfl) (VW.k1 0 rfl (VW.q (VO.w (fun v H' => ∃ ob_0, .ptr ob_0 0 = v ∧ H' = hq ([[(ob_0, .cells (Node.l a0))]]) []) (w_box_q rfl rfl rfl (fun ob => ⟨ob, rfl, rfl⟩)) rfl rfl ?_)))
  rintro _ _ ⟨ob_0, rfl, rfl⟩
  refine VO.a (v := .str k_) rfl (fun _ _ => rfl) (VO.a (v := .i 0) rfl (fun _ _ => rfl) (VO.n (VW.k1 1 rfl (VW.seq (VW.q (VO.r (v := .agg (Node.l a0)) (r_load_q (i := 0) rfl sz24 rfl rfl rfl) rfl rfl ?_))))))
  obtain ⟨rv_1, hx_2, h⟩ := obind h
  refine VO.k (w_keep rfl fn25 rfl ⟨_, _, rfl, rfl, rfl⟩ (ref03_Check_ok _ _ hx_2)) rfl rfl (VO.a (v := .i rv_1) rfl rfl (VO.n (VW.k2 1 4 rfl (VW.q (VO.m rfl rfl (VO.t (v := .bool (rv_1 != 0)) (t_cmp rfl rfl rfl (fun _ _ => rfl) rfl) rfl rfl (VO.n (VW.k3 1 4 8 rfl ?_))))))))
  refine VW.cond (b := (rv_1 != 0)) rfl (fun hc_3 => ?_) (fun hc_3 => ?_)
  · replace h := iteT h hc_3
    refine VW.q (VO.m rfl rfl (VO.a (v := .str k_) rfl (fun _ _ => rfl) (VO.a (v := .i rv_1) rfl rfl (VO.n (VW.k2 2 3 rfl (VW.hsub (A := hq [] []) (hq_sub (.cons _ .slnil) .slnil) (VW.ret (thenQ_ret ?_))))))))
    obtain rfl := oi h
    exact ⟨.inr rfl, rfl, _, .tup [.str k_, .i rv_1], hq [] [], ⟨_, _, rfl, rfl, rfl⟩, VLe.tup ⟨VLe.refl _, VLe.refl _, trivial⟩, hq_sub .slnil .slnil, rfl, rfl⟩
  · replace h := iteF h hc_3
    refine VW.skip (thenQ_normal (VW.k1 1 rfl (VW.q (VO.r (v := .agg (Node.l a0)) (r_load_q (i := 0) rfl sz24 rfl rfl rfl) rfl rfl ?_))))
    obtain ⟨rv_4, hx_5, h⟩ := obind h
    refine VO.k (w_keep rfl fn33 rfl ⟨_, _, rfl, rfl, rfl⟩ (ref03_text_ok _ _ hx_5)) rfl rfl (VO.a (v := .str rv_4) rfl rfl (VO.a (v := .i 0) rfl (fun _ _ => rfl) (VO.n (VW.k2 2 3 rfl (VW.hsub (A := hq [] []) (hq_sub (.cons _ .slnil) .slnil) (VW.ret ?_))))))
    obtain rfl := oi h
    exact ⟨.inr rfl, rfl, _, .tup [.str rv_4, .i 0], hq [] [], ⟨_, _, rfl, rfl, rfl⟩, VLe.tup ⟨VLe.refl _, VLe.refl _, trivial⟩, hq_sub .slnil .slnil, rfl, rfl⟩

theorem set_Hull_ok (a0 : List Pr) (r : Int × Int × Int) (h : PL.set_Hull a0 = some r) :
    VCalls Tryd.prog 34 [.sl .fz (a0.map Pr.c)] (hq [] []) (fun v H => .tup [.i r.1, .i r.2.1, .i r.2.2] = v ∧ H = hq [] []) := by
  unfold PL.set_Hull at h
  refine VCalls.of_body 24 [2, 3, 4] Tryd.func34 rfl rfl rfl (nle rfl) (VW.k1 0 rfl (VW.q (VO.a (v := .i 0) rfl (fun _ _ => rfl) (VO.a (v := .i 0) rfl (fun _ _ => rfl) (VO.a (v := .i 0) rfl (fun _ _ => rfl) (VO.n (VW.k1 0 rfl (VW.seq (VW.block ?_)))))))))
  refine VW.q (VO.m rfl rfl ?_)
  obtain ⟨rv_0, hx_1, h⟩ := obind h
  refine VO.k (w_keep rfl fn36 rfl ⟨_, _, rfl, rfl, rfl⟩ (set_Valid_ok _ _ hx_1)) rfl rfl (VO.t (v := .bool (!rv_0)) (t_not rfl rfl rfl) rfl rfl (VO.a (v := .bool (!rv_0)) rfl rfl (VO.n (VW.k2 0 5 rfl ?_))))
  refine VW.cond (b := (!rv_0)) rfl (fun hc_2 => ?_) (fun hc_2 => ?_)
  · replace h := iteT h hc_2
    refine VW.q (VO.a (v := .i 0) rfl (fun _ _ => rfl) (VO.a (v := .i 0) rfl (fun _ _ => rfl) (VO.a (v := .i 1) rfl (fun _ _ => rfl) (VO.n (VW.k3 2 3 4 rfl (VW.ret (blockQ_ret (thenQ_ret ?_))))))))
    obtain rfl := oi h
    exact ⟨.inr rfl, rfl, _, .tup [.i 0, .i 0, .i 1], hq [] [], ⟨_, _, _, rfl, rfl, rfl, rfl⟩, VLe.tup ⟨VLe.refl _, VLe.refl _, VLe.refl _, trivial⟩, hq_sub .slnil .slnil, rfl, rfl⟩
  · replace h := iteF h hc_2
    refine VW.q (VO.m rfl rfl (VO.t (v := .i (a0.length : Int)) (t_len rfl ⟨_, Tryd.underlying31⟩ rfl (by rw [List.length_map])) rfl rfl (VO.t (v := .bool ((a0.length : Int) == 0)) (t_cmp rfl rfl rfl (fun _ _ => rfl) rfl) rfl rfl (VO.a (v := .bool ((a0.length : Int) == 0)) rfl rfl (VO.n (VW.k2 0 9 rfl ?_))))))
    refine VW.cond (b := ((a0.length : Int) == 0)) rfl (fun hc_3 => ?_) (fun hc_3 => ?_)
    · replace h := iteT h hc_3
      refine VW.q (VO.a (v := .i 0) rfl (fun _ _ => rfl) (VO.a (v := .i 0) rfl (fun _ _ => rfl) (VO.a (v := .i 3) rfl (fun _ _ => rfl) (VO.n (VW.k3 2 3 4 rfl (VW.ret (blockQ_ret (thenQ_ret ?_))))))))
      obtain rfl := oi h
      exact ⟨.inr rfl, rfl, _, .tup [.i 0, .i 0, .i 3], hq [] [], ⟨_, _, _, rfl, rfl, rfl, rfl⟩, VLe.tup ⟨VLe.refl _, VLe.refl _, VLe.refl _, trivial⟩, hq_sub .slnil .slnil, rfl, rfl⟩
    · replace h := iteF h hc_3
      refine VW.skip (blockQ_normal (thenQ_normal (VW.k1 0 rfl (VW.seq (VW.draw 14 mix rfl (VA.phase (g := 0) [0, 1, 2, 3, 4, 5, 6, 7, 8, 9, 10, 11, 12, 13] 14 (VP.take (i := 0) rfl (TOp.r (t_move rfl rfl)) (.inl rfl) (by kernel_rfl) ?_)))))))
      obtain ⟨c_4, hc_4, h⟩ := obind h
      refine VP.take (i := 1) (v := .vptr (Pr.c c_4)) rfl (TOp.r (t_indexAddr rfl sl31 rfl (fun _ _ => rfl) (getI_some hc_4).1 (map_get (getI_some hc_4).2 (Pr.c_eq c_4)) rfl)) (.inl rfl) (by kernel_rfl) (VP.take (i := 2) (v := .vptr (Pr.c c_4)) rfl (TOp.r (t_indexAddr_arr rfl ar59 rfl (fun _ _ => rfl) (by decide) (by decide) rfl)) (.inl rfl) (by kernel_rfl) (VP.take (i := 3) (v := .i c_4.x0) rfl (r_load_v rfl sz3 rfl rfl) (.inl rfl) (by kernel_rfl) (VP.take (i := 4) rfl (TOp.r (t_move rfl rfl)) (.inl rfl) (by kernel_rfl) (VP.take (i := 5) rfl (TOp.r (t_move rfl rfl)) (.inl rfl) (by kernel_rfl) (VP.take (i := 6) (v := .i (a0.length : Int)) rfl (TOp.r (t_len rfl ⟨_, Tryd.underlying31⟩ rfl (by rw [List.length_map]))) (.inl rfl) (by kernel_rfl) (VP.take (i := 7) (v := .i (w64 ((a0.length : Int) - 1))) rfl (TOp.r (t_sub rfl rfl (fun _ _ => rfl) rfl)) (.inl rfl) (by kernel_rfl) ?_))))))
      obtain ⟨c_5, hc_5, h⟩ := obind h
      refine VP.take (i := 8) (v := .vptr (Pr.c c_5)) rfl (TOp.r (t_indexAddr rfl sl31 rfl rfl (getI_some hc_5).1 (map_get (getI_some hc_5).2 (Pr.c_eq c_5)) rfl)) (.inl rfl) (by kernel_rfl) (VP.take (i := 9) (v := .vptr [.i c_5.x1]) rfl (TOp.r (t_indexAddr_arr rfl ar59 rfl (fun _ _ => rfl) (by decide) (by decide) rfl)) (.inl rfl) (by kernel_rfl) (VP.take (i := 10) (v := .i c_5.x1) rfl (r_load_v rfl sz3 rfl rfl) (.inl rfl) (by kernel_rfl) (VP.take (i := 11) (v := .i c_4.x0) rfl (TOp.r (t_assign rfl rfl)) (.inl rfl) (by kernel_rfl) (VP.take (i := 12) (v := .i c_5.x1) rfl (TOp.r (t_assign rfl rfl)) (.inl rfl) (by kernel_rfl) (VP.take (i := 13) (v := .i 0) rfl (TOp.r (t_assign rfl (fun _ _ => rfl))) (.inl rfl) (by kernel_rfl) (VP.done (by kernel_rfl) (VA.done (by kernel_rfl) (thenQ_normal (VW.k3 2 3 4 rfl ?_)))))))))
      refine VW.ret ?_
      obtain rfl := oi h
      exact ⟨.inr rfl, rfl, _, .tup [.i c_4.x0, .i c_5.x1, .i 0], hq [] [], ⟨_, _, _, rfl, rfl, rfl, rfl⟩, VLe.tup ⟨VLe.refl _, VLe.refl _, VLe.refl _, trivial⟩, hq_sub .slnil .slnil, rfl, rfl⟩

theorem set_Effective_ok (a0 : Node) (r : GoType × Int) (h : PL.set_Effective a0 = some r) :
    VCalls Tryd.prog 18 [.agg (Node.l a0)] (hq [] []) (fun v H => .tup [.agg (GoType.c r.1), .i r.2] = v ∧ H = hq [] []) := by
  unfold PL.set_Effective at h
  refine VCalls.of_cell2 44 2 52 3 Tryd.func18 rfl rfl rfl (nle rfl) (VW.k1 0 rfl (VW.q (VO.w (fun v H' => ∃ ob_0, .ptr ob_0 0 = v ∧ H' = hq ([[(ob_0, .cells (Node.l a0))]]) []) (w_box_q rfl rfl rfl (fun ob => ⟨ob, rfl, rfl⟩)) rfl rfl ?_)))
  rintro _ _ ⟨ob_0, rfl, rfl⟩
  refine VO.w (fun v H' => ∃ ob_1, .ptr ob_1 0 = v ∧ H' = hq ([[(ob_1, .cells [.i 0, .str ByteArray.empty, .i 0, .i 0, .bool false, .bool false, .sl .nl [], .sl .nl []])], [(ob_0, .cells (Node.l a0))]]) []) (w_alloc_q rfl zt52 (fun ob => ⟨ob, rfl, rfl⟩)) rfl rfl ?_
  rintro _ _ ⟨ob_1, rfl, rfl⟩
  refine VO.a (v := .i 0) rfl (fun _ _ => rfl) (VO.n (VW.k2 1 2 rfl (VW.q (VO.r (v := .agg (Node.l a0)) (r_load_q (i := 1) rfl sz29 rfl rfl rfl) rfl rfl ?_))))
  obtain ⟨⟨rv_2, rv_3⟩, hx_4, h⟩ := obind h
  try dsimp only at h
  refine VO.k (w_keep rfl fn7 rfl ⟨_, _, rfl, rfl, rfl⟩ (set_Of_ok _ _ hx_4)) rfl rfl (VO.m rfl rfl (VO.t (v := .sl .fz (rv_2.map Pr.c)) (t_extract rfl rfl rfl) rfl rfl (VO.t (v := .i rv_3) (t_extract rfl rfl rfl) rfl rfl (VO.a (v := .sl .fz (rv_2.map Pr.c)) rfl rfl (VO.a (v := .i rv_3) rfl rfl (VO.n (VW.k4 1 2 4 5 rfl (VW.seq (VW.q ?_)))))))))
  refine VO.m rfl rfl (VO.t (v := .bool (rv_3 != 0)) (t_cmp rfl rfl rfl (fun _ _ => rfl) rfl) rfl rfl (VO.n (VW.k5 1 2 4 5 14 rfl ?_)))
  refine VW.cond (b := (rv_3 != 0)) rfl (fun hc_5 => ?_) (fun hc_5 => ?_)
  · replace h := iteT h hc_5
    refine VW.q (VO.t (v := .agg [.i 0, .str ByteArray.empty, .i 0, .i 0, .bool false, .bool false, .sl .nl [], .sl .nl []]) (t_build rfl st52 rfl rfl) rfl rfl (VO.m rfl rfl (VO.w (fun v H' => .any = v ∧ H' = hq ([[(ob_1, .cells [.i 0, .str ByteArray.empty, .i 0, .i 0, .bool false, .bool false, .sl .nl [], .sl .nl []])], [(ob_0, .cells (Node.l a0))]]) []) (w_store_q (i := 0) rfl sz52 rfl rfl rfl rfl rfl (nle rfl) ⟨rfl, rfl⟩) rfl rfl ?_)))
    rintro _ _ ⟨rfl, rfl⟩
    refine VO.a (v := .i rv_3) rfl rfl (VO.n (VW.k2 2 3 rfl (VW.hsub (A := hq ([[(ob_1, .cells [.i 0, .str ByteArray.empty, .i 0, .i 0, .bool false, .bool false, .sl .nl [], .sl .nl []])]]) []) (hq_sub (.cons_cons _ (.cons _ .slnil)) .slnil) (VW.ret (thenQ_ret ?_)))))
    obtain rfl := oi h
    exact ⟨.inr rfl, rfl, _, _, 0, _, _, _, _, _, .tup [.agg [.i ((GoType.mk 0 ByteArray.empty 0 0 false false [] []).Kind), .str ((GoType.mk 0 ByteArray.empty 0 0 false false [] []).Name), .i ((GoType.mk 0 ByteArray.empty 0 0 false false [] []).Lo), .i ((GoType.mk 0 ByteArray.empty 0 0 false false [] []).Hi), .bool ((GoType.mk 0 ByteArray.empty 0 0 false false [] []).Free), .bool ((GoType.mk 0 ByteArray.empty 0 0 false false [] []).Ext), .sl .fz (((GoType.mk 0 ByteArray.empty 0 0 false false [] []).Items).map cRaw), .sl .fz (((GoType.mk 0 ByteArray.empty 0 0 false false [] []).Kids).map cRaw)], .i rv_3], hq [] [], rfl, rfl, sz52, rfl, rfl, VLe.tup ⟨VLe.agg ⟨VLe.refl _, VLe.refl _, VLe.refl _, VLe.refl _, VLe.refl _, VLe.refl _, VLe.sl _ _, VLe.sl _ _, trivial⟩, VLe.refl _, trivial⟩, hq_sub (.cons _ .slnil) .slnil, rfl, rfl⟩
  · replace h := iteF h hc_5
    refine VW.skip (thenQ_normal (VW.k3 1 2 4 rfl (VW.q (VO.m rfl rfl ?_))))
    obtain ⟨⟨rv_6, rv_7, rv_8⟩, hx_9, h⟩ := obind h
    try dsimp only at h
    refine VO.k (w_keep rfl fn34 rfl ⟨_, _, rfl, rfl, rfl⟩ (set_Hull_ok _ _ hx_9)) rfl rfl (VO.m rfl rfl (VO.t (v := .i rv_6) (t_extract rfl rfl rfl) rfl rfl (VO.t (v := .i rv_7) (t_extract rfl rfl rfl) rfl rfl (VO.t (v := .i rv_8) (t_extract rfl rfl rfl) rfl rfl (VO.a (v := .i rv_6) rfl rfl (VO.a (v := .i rv_7) rfl rfl (VO.a (v := .i rv_8) rfl rfl (VO.n (VW.k6 1 2 4 6 7 5 rfl ?_)))))))))
    refine VW.seq (VW.q (VO.m rfl rfl (VO.t (v := .bool (rv_8 != 0)) (t_cmp rfl rfl rfl (fun _ _ => rfl) rfl) rfl rfl (VO.n (VW.k7 1 2 4 6 7 5 24 rfl ?_)))))
    refine VW.cond (b := (rv_8 != 0)) rfl (fun hc_10 => ?_) (fun hc_10 => ?_)
    · replace h := iteT h hc_10
      refine VW.q (VO.t (v := .agg [.i 0, .str ByteArray.empty, .i 0, .i 0, .bool false, .bool false, .sl .nl [], .sl .nl []]) (t_build rfl st52 rfl rfl) rfl rfl (VO.m rfl rfl (VO.w (fun v H' => .any = v ∧ H' = hq ([[(ob_1, .cells [.i 0, .str ByteArray.empty, .i 0, .i 0, .bool false, .bool false, .sl .nl [], .sl .nl []])], [(ob_0, .cells (Node.l a0))]]) []) (w_store_q (i := 0) rfl sz52 rfl rfl rfl rfl rfl (nle rfl) ⟨rfl, rfl⟩) rfl rfl ?_)))
      rintro _ _ ⟨rfl, rfl⟩
      refine VO.a (v := .i rv_8) rfl rfl (VO.n (VW.k2 2 3 rfl (VW.hsub (A := hq ([[(ob_1, .cells [.i 0, .str ByteArray.empty, .i 0, .i 0, .bool false, .bool false, .sl .nl [], .sl .nl []])]]) []) (hq_sub (.cons_cons _ (.cons _ .slnil)) .slnil) (VW.ret (thenQ_ret ?_)))))
      obtain rfl := oi h
      exact ⟨.inr rfl, rfl, _, _, 0, _, _, _, _, _, .tup [.agg [.i ((GoType.mk 0 ByteArray.empty 0 0 false false [] []).Kind), .str ((GoType.mk 0 ByteArray.empty 0 0 false false [] []).Name), .i ((GoType.mk 0 ByteArray.empty 0 0 false false [] []).Lo), .i ((GoType.mk 0 ByteArray.empty 0 0 false false [] []).Hi), .bool ((GoType.mk 0 ByteArray.empty 0 0 false false [] []).Free), .bool ((GoType.mk 0 ByteArray.empty 0 0 false false [] []).Ext), .sl .fz (((GoType.mk 0 ByteArray.empty 0 0 false false [] []).Items).map cRaw), .sl .fz (((GoType.mk 0 ByteArray.empty 0 0 false false [] []).Kids).map cRaw)], .i rv_8], hq [] [], rfl, rfl, sz52, rfl, rfl, VLe.tup ⟨VLe.agg ⟨VLe.refl _, VLe.refl _, VLe.refl _, VLe.refl _, VLe.refl _, VLe.refl _, VLe.sl _ _, VLe.sl _ _, trivial⟩, VLe.refl _, trivial⟩, hq_sub (.cons _ .slnil) .slnil, rfl, rfl⟩
    · replace h := iteF h hc_10
      refine VW.skip (thenQ_normal (VW.k5 1 2 4 6 7 rfl (VW.seq (VW.q (VO.m rfl rfl (VO.t (v := .i (rv_2.length : Int)) (t_len rfl ⟨_, Tryd.underlying31⟩ rfl (by rw [List.length_map])) rfl rfl (VO.t (v := .bool ((rv_2.length : Int) == 1)) (t_cmp rfl rfl rfl (fun _ _ => rfl) rfl) rfl rfl (VO.m rfl rfl ?_))))))))
      refine VO.caseB (d := 30) (b := ((rv_2.length : Int) == 1)) rfl (fun hc_11 => ?_) (fun hc_11 => ?_)
      · replace h := iteT h hc_11
        refine VO.gt (v := .i rv_6) (t_move rfl rfl) rfl rfl rfl rfl (VO.gt (v := .bool (rv_6 == (-1000000000000000))) (t_cmp rfl rfl rfl (fun _ _ => rfl) rfl) rfl rfl rfl rfl (VO.t (v := .bool (rv_6 == (-1000000000000000))) (t_pick (b := true) rfl rfl (fun _ => rfl) (fun h => by cases h)) rfl rfl (VO.m rfl rfl ?_)))
        refine VO.caseB (d := 34) (b := (rv_6 == (-1000000000000000))) rfl (fun hc_12 => ?_) (fun hc_12 => ?_)
        · replace h := iteT h hc_12
          refine VO.gt (v := .i rv_7) (t_move rfl rfl) rfl rfl rfl rfl (VO.gt (v := .bool (rv_7 == 1000000000000000)) (t_cmp rfl rfl rfl (fun _ _ => rfl) rfl) rfl rfl rfl rfl (VO.t (v := .bool (rv_7 == 1000000000000000)) (t_pick (b := true) rfl rfl (fun _ => rfl) (fun h => by cases h)) rfl rfl (VO.n (VW.k5 1 2 6 7 37 rfl ?_))))
          refine VW.cond (b := (rv_7 == 1000000000000000)) rfl (fun hc_13 => ?_) (fun hc_13 => ?_)
          · replace h := iteT h hc_13
            refine VW.q (VO.t (v := .agg [.i 2, .str ByteArray.empty, .i 0, .i 0, .bool true, .bool false, .sl .nl [], .sl .nl []]) (t_build rfl st52 ⟨.i 2, _, rfl, (fun _ _ => rfl), rfl, .bool true, _, rfl, (fun _ _ => rfl), rfl, rfl⟩ rfl) rfl rfl (VO.w (fun v H' => .any = v ∧ H' = hq ([[(ob_1, .cells [.i 2, .str ByteArray.empty, .i 0, .i 0, .bool true, .bool false, .sl .nl [], .sl .nl []])], [(ob_0, .cells (Node.l a0))]]) []) (w_store_q (i := 0) rfl sz52 rfl rfl rfl rfl rfl (nle rfl) ⟨rfl, rfl⟩) rfl rfl ?_))
            rintro _ _ ⟨rfl, rfl⟩
            refine VO.a (v := .i 0) rfl (fun _ _ => rfl) (VO.n (VW.k2 2 3 rfl (VW.hsub (A := hq ([[(ob_1, .cells [.i 2, .str ByteArray.empty, .i 0, .i 0, .bool true, .bool false, .sl .nl [], .sl .nl []])]]) []) (hq_sub (.cons_cons _ (.cons _ .slnil)) .slnil) (VW.ret (thenQ_ret ?_)))))
            obtain rfl := oi h
            exact ⟨.inr rfl, rfl, _, _, 0, _, _, _, _, _, .tup [.agg [.i ((GoType.mk 2 ByteArray.empty 0 0 true false [] []).Kind), .str ((GoType.mk 2 ByteArray.empty 0 0 true false [] []).Name), .i ((GoType.mk 2 ByteArray.empty 0 0 true false [] []).Lo), .i ((GoType.mk 2 ByteArray.empty 0 0 true false [] []).Hi), .bool ((GoType.mk 2 ByteArray.empty 0 0 true false [] []).Free), .bool ((GoType.mk 2 ByteArray.empty 0 0 true false [] []).Ext), .sl .fz (((GoType.mk 2 ByteArray.empty 0 0 true false [] []).Items).map cRaw), .sl .fz (((GoType.mk 2 ByteArray.empty 0 0 true false [] []).Kids).map cRaw)], .i 0], hq [] [], rfl, rfl, sz52, rfl, rfl, VLe.tup ⟨VLe.agg ⟨VLe.refl _, VLe.refl _, VLe.refl _, VLe.refl _, VLe.refl _, VLe.refl _, VLe.sl _ _, VLe.sl _ _, trivial⟩, VLe.refl _, trivial⟩, hq_sub (.cons _ .slnil) .slnil, rfl, rfl⟩
          · replace h := iteF h hc_13
            refine VW.skip (thenQ_normal (VW.k4 1 2 6 7 rfl (VW.q (VO.m rfl rfl (VO.m rfl rfl (VO.r (v := .agg (Node.l a0)) (r_load_q (i := 1) rfl sz29 rfl rfl rfl) rfl rfl ?_))))))
            obtain ⟨rv_14, hx_15, h⟩ := obind h
            refine VO.k (w_keep rfl fn28 rfl ⟨_, _, rfl, rfl, rfl⟩ (set_extends_ok _ _ hx_15)) rfl rfl (VO.t (v := .agg [.i 2, .str ByteArray.empty, .i rv_6, .i rv_7, .bool false, .bool rv_14, .sl .nl [], .sl .nl []]) (t_build rfl st52 ⟨.i 2, _, rfl, (fun _ _ => rfl), rfl, _, _, rfl, rfl, rfl, _, _, rfl, rfl, rfl, _, _, rfl, rfl, rfl, rfl⟩ rfl) rfl rfl (VO.w (fun v H' => .any = v ∧ H' = hq ([[(ob_1, .cells [.i 2, .str ByteArray.empty, .i rv_6, .i rv_7, .bool false, .bool rv_14, .sl .nl [], .sl .nl []])], [(ob_0, .cells (Node.l a0))]]) []) (w_store_q (i := 0) rfl sz52 rfl rfl rfl rfl rfl (nle rfl) ⟨rfl, rfl⟩) rfl rfl ?_))
            rintro _ _ ⟨rfl, rfl⟩
            refine VO.a (v := .i 0) rfl (fun _ _ => rfl) (VO.n (VW.k2 2 3 rfl (VW.hsub (A := hq ([[(ob_1, .cells [.i 2, .str ByteArray.empty, .i rv_6, .i rv_7, .bool false, .bool rv_14, .sl .nl [], .sl .nl []])]]) []) (hq_sub (.cons_cons _ (.cons _ .slnil)) .slnil) (VW.ret ?_))))
            obtain rfl := oi h
            exact ⟨.inr rfl, rfl, _, _, 0, _, _, _, _, _, .tup [.agg [.i ((GoType.mk 2 ByteArray.empty rv_6 rv_7 false rv_14 [] []).Kind), .str ((GoType.mk 2 ByteArray.empty rv_6 rv_7 false rv_14 [] []).Name), .i ((GoType.mk 2 ByteArray.empty rv_6 rv_7 false rv_14 [] []).Lo), .i ((GoType.mk 2 ByteArray.empty rv_6 rv_7 false rv_14 [] []).Hi), .bool ((GoType.mk 2 ByteArray.empty rv_6 rv_7 false rv_14 [] []).Free), .bool ((GoType.mk 2 ByteArray.empty rv_6 rv_7 false rv_14 [] []).Ext), .sl .fz (((GoType.mk 2 ByteArray.empty rv_6 rv_7 false rv_14 [] []).Items).map cRaw), .sl .fz (((GoType.mk 2 ByteArray.empty rv_6 rv_7 false rv_14 [] []).Kids).map cRaw)], .i 0], hq [] [], rfl, rfl, sz52, rfl, rfl, VLe.tup ⟨VLe.agg ⟨VLe.refl _, VLe.refl _, VLe.refl _, VLe.refl _, VLe.refl _, VLe.refl _, VLe.sl _ _, VLe.sl _ _, trivial⟩, VLe.refl _, trivial⟩, hq_sub (.cons _ .slnil) .slnil, rfl, rfl⟩
        · replace h := iteF h hc_12
          refine VO.s rfl (VO.s rfl (VO.t (v := .bool false) (t_pick (b := false) rfl rfl (fun h => by cases h) (fun _ => (fun _ _ => rfl))) rfl rfl (VO.n (VW.k5 1 2 6 7 37 rfl (VW.condF rfl (VW.skip (thenQ_normal (VW.k4 1 2 6 7 rfl (VW.q ?_)))))))))
          refine VO.m rfl rfl (VO.m rfl rfl (VO.r (v := .agg (Node.l a0)) (r_load_q (i := 1) rfl sz29 rfl rfl rfl) rfl rfl ?_))
          obtain ⟨rv_16, hx_17, h⟩ := obind h
          refine VO.k (w_keep rfl fn28 rfl ⟨_, _, rfl, rfl, rfl⟩ (set_extends_ok _ _ hx_17)) rfl rfl (VO.t (v := .agg [.i 2, .str ByteArray.empty, .i rv_6, .i rv_7, .bool false, .bool rv_16, .sl .nl [], .sl .nl []]) (t_build rfl st52 ⟨.i 2, _, rfl, (fun _ _ => rfl), rfl, _, _, rfl, rfl, rfl, _, _, rfl, rfl, rfl, _, _, rfl, rfl, rfl, rfl⟩ rfl) rfl rfl (VO.w (fun v H' => .any = v ∧ H' = hq ([[(ob_1, .cells [.i 2, .str ByteArray.empty, .i rv_6, .i rv_7, .bool false, .bool rv_16, .sl .nl [], .sl .nl []])], [(ob_0, .cells (Node.l a0))]]) []) (w_store_q (i := 0) rfl sz52 rfl rfl rfl rfl rfl (nle rfl) ⟨rfl, rfl⟩) rfl rfl ?_))
          rintro _ _ ⟨rfl, rfl⟩
          refine VO.a (v := .i 0) rfl (fun _ _ => rfl) (VO.n (VW.k2 2 3 rfl (VW.hsub (A := hq ([[(ob_1, .cells [.i 2, .str ByteArray.empty, .i rv_6, .i rv_7, .bool false, .bool rv_16, .sl .nl [], .sl .nl []])]]) []) (hq_sub (.cons_cons _ (.cons _ .slnil)) .slnil) (VW.ret ?_))))
          obtain rfl := oi h
          exact ⟨.inr rfl, rfl, _, _, 0, _, _, _, _, _, .tup [.agg [.i ((GoType.mk 2 ByteArray.empty rv_6 rv_7 false rv_16 [] []).Kind), .str ((GoType.mk 2 ByteArray.empty rv_6 rv_7 false rv_16 [] []).Name), .i ((GoType.mk 2 ByteArray.empty rv_6 rv_7 false rv_16 [] []).Lo), .i ((GoType.mk 2 ByteArray.empty rv_6 rv_7 false rv_16 [] []).Hi), .bool ((GoType.mk 2 ByteArray.empty rv_6 rv_7 false rv_16 [] []).Free), .bool ((GoType.mk 2 ByteArray.empty rv_6 rv_7 false rv_16 [] []).Ext), .sl .fz (((GoType.mk 2 ByteArray.empty rv_6 rv_7 false rv_16 [] []).Items).map cRaw), .sl .fz (((GoType.mk 2 ByteArray.empty rv_6 rv_7 false rv_16 [] []).Kids).map cRaw)], .i 0], hq [] [], rfl, rfl, sz52, rfl, rfl, VLe.tup ⟨VLe.agg ⟨VLe.refl _, VLe.refl _, VLe.refl _, VLe.refl _, VLe.refl _, VLe.refl _, VLe.sl _ _, VLe.sl _ _, trivial⟩, VLe.refl _, trivial⟩, hq_sub (.cons _ .slnil) .slnil, rfl, rfl⟩
      · replace h := iteF h hc_11
        refine VO.s rfl (VO.s rfl (VO.t (v := .bool false) (t_pick (b := false) rfl rfl (fun h => by cases h) (fun _ => (fun _ _ => rfl))) rfl rfl (VO.m rfl rfl (VO.s rfl (VO.s rfl (VO.t (v := .bool false) (t_pick (b := false) rfl rfl (fun h => by cases h) (fun _ => (fun _ _ => rfl))) rfl rfl (VO.n (VW.k5 1 2 6 7 37 rfl (VW.condF rfl ?_)))))))))
        refine VW.skip (thenQ_normal (VW.k4 1 2 6 7 rfl (VW.q (VO.m rfl rfl (VO.m rfl rfl (VO.r (v := .agg (Node.l a0)) (r_load_q (i := 1) rfl sz29 rfl rfl rfl) rfl rfl ?_))))))
        obtain ⟨rv_18, hx_19, h⟩ := obind h
        refine VO.k (w_keep rfl fn28 rfl ⟨_, _, rfl, rfl, rfl⟩ (set_extends_ok _ _ hx_19)) rfl rfl (VO.t (v := .agg [.i 2, .str ByteArray.empty, .i rv_6, .i rv_7, .bool false, .bool rv_18, .sl .nl [], .sl .nl []]) (t_build rfl st52 ⟨.i 2, _, rfl, (fun _ _ => rfl), rfl, _, _, rfl, rfl, rfl, _, _, rfl, rfl, rfl, _, _, rfl, rfl, rfl, rfl⟩ rfl) rfl rfl (VO.w (fun v H' => .any = v ∧ H' = hq ([[(ob_1, .cells [.i 2, .str ByteArray.empty, .i rv_6, .i rv_7, .bool false, .bool rv_18, .sl .nl [], .sl .nl []])], [(ob_0, .cells (Node.l a0))]]) []) (w_store_q (i := 0) rfl sz52 rfl rfl rfl rfl rfl (nle rfl) ⟨rfl, rfl⟩) rfl rfl ?_))
        rintro _ _ ⟨rfl, rfl⟩
        refine VO.a (v := .i 0) rfl (fun _ _ => rfl) (VO.n (VW.k2 2 3 rfl (VW.hsub (A := hq ([[(ob_1, .cells [.i 2, .str ByteArray.empty, .i rv_6, .i rv_7, .bool false, .bool rv_18, .sl .nl [], .sl .nl []])]]) []) (hq_sub (.cons_cons _ (.cons _ .slnil)) .slnil) (VW.ret ?_))))
        obtain rfl := oi h
        exact ⟨.inr rfl, rfl, _, _, 0, _, _, _, _, _, .tup [.agg [.i ((GoType.mk 2 ByteArray.empty rv_6 rv_7 false rv_18 [] []).Kind), .str ((GoType.mk 2 ByteArray.empty rv_6 rv_7 false rv_18 [] []).Name), .i ((GoType.mk 2 ByteArray.empty rv_6 rv_7 false rv_18 [] []).Lo), .i ((GoType.mk 2 ByteArray.empty rv_6 rv_7 false rv_18 [] []).Hi), .bool ((GoType.mk 2 ByteArray.empty rv_6 rv_7 false rv_18 [] []).Free), .bool ((GoType.mk 2 ByteArray.empty rv_6 rv_7 false rv_18 [] []).Ext), .sl .fz (((GoType.mk 2 ByteArray.empty rv_6 rv_7 false rv_18 [] []).Items).map cRaw), .sl .fz (((GoType.mk 2 ByteArray.empty rv_6 rv_7 false rv_18 [] []).Kids).map cRaw)], .i 0], hq [] [], rfl, rfl, sz52, rfl, rfl, VLe.tup ⟨VLe.agg ⟨VLe.refl _, VLe.refl _, VLe.refl _, VLe.refl _, VLe.refl _, VLe.refl _, VLe.sl _ _, VLe.sl _ _, trivial⟩, VLe.refl _, trivial⟩, hq_sub (.cons _ .slnil) .slnil, rfl, rfl⟩

theorem ref03_Valid.l0_ok (a0 : List Pr) {Q : Exit → Env → HH → Prop} :
    ∀ (i_0 : Int) (o : Unit ⊕ Unit), PL.ref03_Valid.l0 a0 i_0 = some o →
    ∀ (hx0 : Sum.inl () = o → Q (.exit 0) ⟨[], []⟩ (hq [] [])) (hx1 : Sum.inr () = o → Q .ret ⟨[(2, .bool false)], []⟩ (hq [] [])), VW Tryd.prog 59 (codeAt [1, 1, 0, 1, 0, 0] (bodyOf Tryd.f53)) (thenQ (VL Tryd.prog 59 (codeAt [1, 1, 0, 1, 0, 0] (bodyOf Tryd.f53)) Q) Q) ⟨[(0, .sl .fz (a0.map Pr.c)), (3, .i i_0)], []⟩ (hq [] []) := by
  refine PL.ref03_Valid.l0.partial_correctness a0 (motive := fun i_0 o => ∀ (hx0 : Sum.inl () = o → Q (.exit 0) ⟨[], []⟩ (hq [] [])) (hx1 : Sum.inr () = o → Q .ret ⟨[(2, .bool false)], []⟩ (hq [] [])), VW Tryd.prog 59 (codeAt [1, 1, 0, 1, 0, 0] (bodyOf Tryd.f53)) (thenQ (VL Tryd.prog 59 (codeAt [1, 1, 0, 1, 0, 0] (bodyOf Tryd.f53)) Q) Q) ⟨[(0, .sl .fz (a0.map Pr.c)), (3, .i i_0)], []⟩ (hq [] [])) ?_
  intro _ ih i_0 o h hx0 hx1
  refine VW.seq (VW.q (VO.m rfl rfl (VO.m rfl rfl (VO.t (v := .i (a0.length : Int)) (t_len rfl ⟨_, Tryd.underlying31⟩ rfl (by rw [List.length_map])) rfl rfl (VO.t (v := .bool (decide (i_0 < (a0.length : Int)))) (t_cmp rfl rfl rfl rfl rfl) rfl rfl (VO.n (VW.k3 0 3 10 rfl ?_)))))))
  refine VW.cond (b := (decide (i_0 < (a0.length : Int)))) rfl (fun hc_1 => ?_) (fun hc_1 => ?_)
  · replace h := iteT h hc_1
    refine VW.skip (thenQ_normal (VW.k2 0 3 rfl (VW.seq (VW.block (VW.seq (VW.draw 46 mix rfl (VA.phase (g := 34) [0, 1, 2, 3, 4, 5, 6, 7, 8, 9, 10, 11] 12 (VP.take (i := 0) rfl (TOp.r (t_move rfl rfl)) (.inl rfl) (by kernel_rfl) (VP.take (i := 1) rfl (TOp.r (t_move rfl rfl)) (.inl rfl) (by kernel_rfl) ?_)))))))))
    obtain ⟨c_2, hc_2, h⟩ := obind h
    refine VP.take (i := 2) (v := .vptr (Pr.c c_2)) rfl (TOp.r (t_indexAddr rfl sl31 rfl rfl (getI_some hc_2).1 (map_get (getI_some hc_2).2 (Pr.c_eq c_2)) rfl)) (.inl rfl) (by kernel_rfl) (VP.take (i := 3) (v := .vptr (Pr.c c_2)) rfl (TOp.r (t_indexAddr_arr rfl ar59 rfl (fun _ _ => rfl) (by decide) (by decide) rfl)) (.inl rfl) (by kernel_rfl) (VP.take (i := 4) (v := .i c_2.x0) rfl (r_load_v rfl sz3 rfl rfl) (.inl rfl) (by kernel_rfl) (VP.take (i := 5) rfl (TOp.r (t_move rfl rfl)) (.inl rfl) (by kernel_rfl) (VP.take (i := 6) rfl (TOp.r (t_move rfl rfl)) (.inl rfl) (by kernel_rfl) (VP.take (i := 7) (v := .vptr (Pr.c c_2)) rfl (TOp.r (t_indexAddr rfl sl31 rfl rfl (getI_some hc_2).1 (map_get (getI_some hc_2).2 (Pr.c_eq c_2)) rfl)) (.inl rfl) (by kernel_rfl) (VP.take (i := 8) (v := .vptr [.i c_2.x1]) rfl (TOp.r (t_indexAddr_arr rfl ar59 rfl (fun _ _ => rfl) (by decide) (by decide) rfl)) (.inl rfl) (by kernel_rfl) (VP.take (i := 9) (v := .i c_2.x1) rfl (r_load_v rfl sz3 rfl rfl) (.inl rfl) (by kernel_rfl) (VP.take (i := 10) (v := .bool (decide (c_2.x0 > c_2.x1))) rfl (TOp.r (t_cmp rfl rfl rfl rfl rfl)) (.inl rfl) (by kernel_rfl) (VP.take (i := 11) rfl (TOp.r (t_move rfl rfl)) (.inl rfl) (by kernel_rfl) ?_)))))))))
    refine VP.done (by kernel_rfl) ?_
    refine VA.caseB (d := 24) (b := (decide (c_2.x0 > c_2.x1))) rfl (fun hc_3 => ?_) (fun hc_3 => ?_)
    · replace h := iteT h hc_3
      refine VA.s 12 rfl (by kernel_rfl) (VA.s 13 rfl (by kernel_rfl) (VA.s 14 rfl (by kernel_rfl) (VA.s 15 rfl (by kernel_rfl) (VA.s 16 rfl (by kernel_rfl) (VA.s 17 rfl (by kernel_rfl) (VA.t (i := 18) (v := .bool true) rfl (t_pick (b := true) rfl rfl (fun _ => (fun _ _ => rfl)) (fun h => by cases h)) (.inl rfl) (by kernel_rfl) (VA.t (i := 19) rfl (t_move rfl rfl) (.inl rfl) (by kernel_rfl) (VA.s 20 rfl (by kernel_rfl) (VA.s 21 rfl (by kernel_rfl) ?_)))))))))
      refine VA.s 22 rfl (by kernel_rfl) (VA.s 23 rfl (by kernel_rfl) (VA.s 24 rfl (by kernel_rfl) (VA.s 25 rfl (by kernel_rfl) (VA.t (i := 26) (v := .bool true) rfl (t_pick (b := true) rfl rfl (fun _ => (fun _ _ => rfl)) (fun h => by cases h)) (.inl rfl) (by kernel_rfl) (VA.t (i := 27) rfl (t_move rfl rfl) (.inl rfl) (by kernel_rfl) (VA.s 28 rfl (by kernel_rfl) (VA.s 29 rfl (by kernel_rfl) (VA.s 30 rfl (by kernel_rfl) (VA.s 31 rfl (by kernel_rfl) ?_)))))))))
      refine VA.s 32 rfl (by kernel_rfl) (VA.s 33 rfl (by kernel_rfl) (VA.s 34 rfl (by kernel_rfl) (VA.s 35 rfl (by kernel_rfl) (VA.s 36 rfl (by kernel_rfl) (VA.s 37 rfl (by kernel_rfl) (VA.s 38 rfl (by kernel_rfl) (VA.s 39 rfl (by kernel_rfl) (VA.s 40 rfl (by kernel_rfl) (VA.s 41 rfl (by kernel_rfl) ?_)))))))))
      refine VA.s 42 rfl (by kernel_rfl) (VA.s 43 rfl (by kernel_rfl) (VA.s 44 rfl (by kernel_rfl) (VA.t (i := 45) (v := .bool true) rfl (t_pick (b := true) rfl rfl (fun _ => (fun _ _ => rfl)) (fun h => by cases h)) (.inl rfl) (by kernel_rfl) (VA.done (by kernel_rfl) (thenQ_normal (VW.subK (.c 0 rfl (.c 3 rfl (.c 25 rfl (.c 26 rfl (.c 27 rfl (.c 28 rfl (.c 29 rfl (.c 30 rfl (.c 33 rfl (.c 34 rfl (.c 35 rfl (.c 36 rfl (.c 37 rfl (.c 38 rfl (.c 41 rfl (.c 42 rfl (.c 43 rfl (.c 44 rfl (.c 45 rfl (.c 46 rfl (.c 47 rfl (.c 48 rfl (.c 49 rfl (.c 50 rfl (.c 51 rfl (.c 52 rfl (.c 53 rfl (.c 54 rfl (.c 55 rfl (.c 56 rfl (.c 57 rfl (.c 58 rfl .n)))))))))))))))))))))))))))))))) rfl (VW.condT rfl (VW.q (VO.a (v := .bool false) rfl (fun _ _ => rfl) ?_)))))))))
      refine VO.n (VW.k1 2 rfl (VW.k1 2 rfl (VW.ret (blockQ_ret (thenQ_ret (thenQ_ret ?_))))))
      obtain rfl := oi h
      exact hx1  rfl
    · replace h := iteF h hc_3
      refine VA.phase (g := 26) [12, 13, 14, 15, 16, 17, 18, 19] 8 (VP.take (i := 12) rfl (TOp.r (t_move rfl rfl)) (.inr ⟨_, _, _, rfl, rfl, rfl⟩) (by kernel_rfl) (VP.take (i := 13) rfl (TOp.r (t_move rfl rfl)) (.inr ⟨_, _, _, rfl, rfl, rfl⟩) (by kernel_rfl) (VP.take (i := 14) (v := .vptr (Pr.c c_2)) rfl (TOp.r (t_indexAddr rfl sl31 rfl rfl (getI_some hc_2).1 (map_get (getI_some hc_2).2 (Pr.c_eq c_2)) rfl)) (.inr ⟨_, _, _, rfl, rfl, rfl⟩) (by kernel_rfl) (VP.take (i := 15) (v := .vptr (Pr.c c_2)) rfl (TOp.r (t_indexAddr_arr rfl ar59 rfl (fun _ _ => rfl) (by decide) (by decide) rfl)) (.inr ⟨_, _, _, rfl, rfl, rfl⟩) (by kernel_rfl) (VP.take (i := 16) (v := .i c_2.x0) rfl (r_load_v rfl sz3 rfl rfl) (.inr ⟨_, _, _, rfl, rfl, rfl⟩) (by kernel_rfl) (VP.take (i := 17) (v := .bool (decide (c_2.x0 < (-1000000000000000)))) rfl (TOp.r (t_cmp rfl rfl rfl (fun _ _ => rfl) rfl)) (.inr ⟨_, _, _, rfl, rfl, rfl⟩) (by kernel_rfl) (VP.take (i := 18) (v := .bool (decide (c_2.x0 < (-1000000000000000)))) rfl (TOp.r (t_pick (b := false) rfl rfl (fun h => by cases h) (fun _ => rfl))) (.inl rfl) (by kernel_rfl) (VP.take (i := 19) rfl (TOp.r (t_move rfl rfl)) (.inl rfl) (by kernel_rfl) (VP.done (by kernel_rfl) ?_)))))))))
      refine VA.caseB (d := 32) (b := (decide (c_2.x0 < (-1000000000000000)))) rfl (fun hc_4 => ?_) (fun hc_4 => ?_)
      · replace h := iteT h hc_4
        refine VA.s 20 rfl (by kernel_rfl) (VA.s 21 rfl (by kernel_rfl) (VA.s 22 rfl (by kernel_rfl) (VA.s 23 rfl (by kernel_rfl) (VA.s 24 rfl (by kernel_rfl) (VA.s 25 rfl (by kernel_rfl) (VA.t (i := 26) (v := .bool true) rfl (t_pick (b := true) rfl rfl (fun _ => (fun _ _ => rfl)) (fun h => by cases h)) (.inl rfl) (by kernel_rfl) (VA.t (i := 27) rfl (t_move rfl rfl) (.inl rfl) (by kernel_rfl) (VA.s 28 rfl (by kernel_rfl) (VA.s 29 rfl (by kernel_rfl) ?_)))))))))
        refine VA.s 30 rfl (by kernel_rfl) (VA.s 31 rfl (by kernel_rfl) (VA.s 32 rfl (by kernel_rfl) (VA.s 33 rfl (by kernel_rfl) (VA.s 34 rfl (by kernel_rfl) (VA.s 35 rfl (by kernel_rfl) (VA.s 36 rfl (by kernel_rfl) (VA.s 37 rfl (by kernel_rfl) (VA.s 38 rfl (by kernel_rfl) (VA.s 39 rfl (by kernel_rfl) ?_)))))))))
        refine VA.s 40 rfl (by kernel_rfl) (VA.s 41 rfl (by kernel_rfl) (VA.s 42 rfl (by kernel_rfl) (VA.s 43 rfl (by kernel_rfl) (VA.s 44 rfl (by kernel_rfl) (VA.t (i := 45) (v := .bool true) rfl (t_pick (b := true) rfl rfl (fun _ => (fun _ _ => rfl)) (fun h => by cases h)) (.inl rfl) (by kernel_rfl) (VA.done (by kernel_rfl) (thenQ_normal (VW.subK (.c 0 rfl (.c 3 rfl (.c 25 rfl (.c 26 rfl (.c 27 rfl (.c 28 rfl (.c 29 rfl (.c 30 rfl (.c 33 rfl (.c 34 rfl (.c 35 rfl (.c 36 rfl (.c 37 rfl (.c 38 rfl (.c 41 rfl (.c 42 rfl (.c 43 rfl (.c 44 rfl (.c 45 rfl (.c 46 rfl (.c 47 rfl (.c 48 rfl (.c 49 rfl (.c 50 rfl (.c 51 rfl (.c 52 rfl (.c 53 rfl (.c 54 rfl (.c 55 rfl (.c 56 rfl (.c 57 rfl (.c 58 rfl .n)))))))))))))))))))))))))))))))) rfl (VW.condT rfl ?_)))))))))
        refine VW.q (VO.a (v := .bool false) rfl (fun _ _ => rfl) (VO.n (VW.k1 2 rfl (VW.k1 2 rfl (VW.ret (blockQ_ret (thenQ_ret (thenQ_ret ?_))))))))
        obtain rfl := oi h
        exact hx1  rfl
      · replace h := iteF h hc_4
        refine VA.phase (g := 18) [20, 21, 22, 23, 24, 25, 26, 27] 8 (VP.take (i := 20) rfl (TOp.r (t_move rfl rfl)) (.inr ⟨_, _, _, rfl, rfl, rfl⟩) (by kernel_rfl) (VP.take (i := 21) rfl (TOp.r (t_move rfl rfl)) (.inr ⟨_, _, _, rfl, rfl, rfl⟩) (by kernel_rfl) (VP.take (i := 22) (v := .vptr (Pr.c c_2)) rfl (TOp.r (t_indexAddr rfl sl31 rfl rfl (getI_some hc_2).1 (map_get (getI_some hc_2).2 (Pr.c_eq c_2)) rfl)) (.inr ⟨_, _, _, rfl, rfl, rfl⟩) (by kernel_rfl) (VP.take (i := 23) (v := .vptr [.i c_2.x1]) rfl (TOp.r (t_indexAddr_arr rfl ar59 rfl (fun _ _ => rfl) (by decide) (by decide) rfl)) (.inr ⟨_, _, _, rfl, rfl, rfl⟩) (by kernel_rfl) (VP.take (i := 24) (v := .i c_2.x1) rfl (r_load_v rfl sz3 rfl rfl) (.inr ⟨_, _, _, rfl, rfl, rfl⟩) (by kernel_rfl) (VP.take (i := 25) (v := .bool (decide (c_2.x1 > 1000000000000000))) rfl (TOp.r (t_cmp rfl rfl rfl (fun _ _ => rfl) rfl)) (.inr ⟨_, _, _, rfl, rfl, rfl⟩) (by kernel_rfl) (VP.take (i := 26) (v := .bool (decide (c_2.x1 > 1000000000000000))) rfl (TOp.r (t_pick (b := false) rfl rfl (fun h => by cases h) (fun _ => rfl))) (.inl rfl) (by kernel_rfl) (VP.take (i := 27) rfl (TOp.r (t_move rfl rfl)) (.inl rfl) (by kernel_rfl) (VP.done (by kernel_rfl) ?_)))))))))
        refine VA.caseB (d := 40) (b := (decide (c_2.x1 > 1000000000000000))) rfl (fun hc_5 => ?_) (fun hc_5 => ?_)
        · replace h := iteT h hc_5
          refine VA.s 28 rfl (by kernel_rfl) (VA.s 29 rfl (by kernel_rfl) (VA.s 30 rfl (by kernel_rfl) (VA.s 31 rfl (by kernel_rfl) (VA.s 32 rfl (by kernel_rfl) (VA.s 33 rfl (by kernel_rfl) (VA.s 34 rfl (by kernel_rfl) (VA.s 35 rfl (by kernel_rfl) (VA.s 36 rfl (by kernel_rfl) (VA.s 37 rfl (by kernel_rfl) ?_)))))))))
          refine VA.s 38 rfl (by kernel_rfl) (VA.s 39 rfl (by kernel_rfl) (VA.s 40 rfl (by kernel_rfl) (VA.s 41 rfl (by kernel_rfl) (VA.s 42 rfl (by kernel_rfl) (VA.s 43 rfl (by kernel_rfl) (VA.s 44 rfl (by kernel_rfl) (VA.t (i := 45) (v := .bool true) rfl (t_pick (b := true) rfl rfl (fun _ => (fun _ _ => rfl)) (fun h => by cases h)) (.inl rfl) (by kernel_rfl) (VA.done (by kernel_rfl) (thenQ_normal ?_)))))))))
          refine VW.subK (.c 0 rfl (.c 3 rfl (.c 25 rfl (.c 26 rfl (.c 27 rfl (.c 28 rfl (.c 29 rfl (.c 30 rfl (.c 33 rfl (.c 34 rfl (.c 35 rfl (.c 36 rfl (.c 37 rfl (.c 38 rfl (.c 41 rfl (.c 42 rfl (.c 43 rfl (.c 44 rfl (.c 45 rfl (.c 46 rfl (.c 47 rfl (.c 48 rfl (.c 49 rfl (.c 50 rfl (.c 51 rfl (.c 52 rfl (.c 53 rfl (.c 54 rfl (.c 55 rfl (.c 56 rfl (.c 57 rfl (.c 58 rfl .n)))))))))))))))))))))))))))))))) rfl (VW.condT rfl (VW.q (VO.a (v := .bool false) rfl (fun _ _ => rfl) (VO.n (VW.k1 2 rfl (VW.k1 2 rfl (VW.ret (blockQ_ret (thenQ_ret ?_)))))))))
          refine thenQ_ret ?_
          obtain rfl := oi h
          exact hx1  rfl
        · replace h := iteF h hc_5
          refine VA.t (i := 28) rfl (t_move rfl rfl) (.inr ⟨_, _, _, rfl, rfl, rfl⟩) (by kernel_rfl) (VA.t (i := 29) (v := .bool (decide (i_0 > 0))) rfl (t_cmp rfl rfl rfl (fun _ _ => rfl) rfl) (.inr ⟨_, _, _, rfl, rfl, rfl⟩) (by kernel_rfl) (VA.t (i := 30) rfl (t_move rfl rfl) (.inr ⟨_, _, _, rfl, rfl, rfl⟩) (by kernel_rfl) ?_))
          refine VA.caseB (d := 43) (b := (decide (i_0 > 0))) rfl (fun hc_6 => ?_) (fun hc_6 => ?_)
          · replace h := iteT h hc_6
            refine VA.phase (g := 0) [31, 32, 33, 34, 35, 36, 37, 38, 39, 40, 41, 42, 43, 44, 45] 15 (VP.take (i := 31) rfl (TOp.r (t_move rfl rfl)) (.inr ⟨_, _, _, rfl, rfl, rfl⟩) (by kernel_rfl) (VP.take (i := 32) rfl (TOp.r (t_move rfl rfl)) (.inr ⟨_, _, _, rfl, rfl, rfl⟩) (by kernel_rfl) (VP.take (i := 33) (v := .vptr (Pr.c c_2)) rfl (TOp.r (t_indexAddr rfl sl31 rfl rfl (getI_some hc_2).1 (map_get (getI_some hc_2).2 (Pr.c_eq c_2)) rfl)) (.inr ⟨_, _, _, rfl, rfl, rfl⟩) (by kernel_rfl) (VP.take (i := 34) (v := .vptr (Pr.c c_2)) rfl (TOp.r (t_indexAddr_arr rfl ar59 rfl (fun _ _ => rfl) (by decide) (by decide) rfl)) (.inr ⟨_, _, _, rfl, rfl, rfl⟩) (by kernel_rfl) (VP.take (i := 35) (v := .i c_2.x0) rfl (r_load_v rfl sz3 rfl rfl) (.inr ⟨_, _, _, rfl, rfl, rfl⟩) (by kernel_rfl) (VP.take (i := 36) rfl (TOp.r (t_move rfl rfl)) (.inr ⟨_, _, _, rfl, rfl, rfl⟩) (by kernel_rfl) (VP.take (i := 37) rfl (TOp.r (t_move rfl rfl)) (.inr ⟨_, _, _, rfl, rfl, rfl⟩) (by kernel_rfl) (VP.take (i := 38) (v := .i (w64 (i_0 - 1))) rfl (TOp.r (t_sub rfl rfl (fun _ _ => rfl) rfl)) (.inr ⟨_, _, _, rfl, rfl, rfl⟩) (by kernel_rfl) ?_))))))))
            obtain ⟨c_7, hc_7, h⟩ := obind h
            refine VP.take (i := 39) (v := .vptr (Pr.c c_7)) rfl (TOp.r (t_indexAddr rfl sl31 rfl rfl (getI_some hc_7).1 (map_get (getI_some hc_7).2 (Pr.c_eq c_7)) rfl)) (.inr ⟨_, _, _, rfl, rfl, rfl⟩) (by kernel_rfl) (VP.take (i := 40) (v := .vptr [.i c_7.x1]) rfl (TOp.r (t_indexAddr_arr rfl ar59 rfl (fun _ _ => rfl) (by decide) (by decide) rfl)) (.inr ⟨_, _, _, rfl, rfl, rfl⟩) (by kernel_rfl) (VP.take (i := 41) (v := .i c_7.x1) rfl (r_load_v rfl sz3 rfl rfl) (.inr ⟨_, _, _, rfl, rfl, rfl⟩) (by kernel_rfl) (VP.take (i := 42) (v := .i (w64 (c_7.x1 + 2))) rfl (TOp.r (t_add rfl rfl (fun _ _ => rfl) rfl)) (.inr ⟨_, _, _, rfl, rfl, rfl⟩) (by kernel_rfl) (VP.take (i := 43) (v := .bool (decide (c_2.x0 < (w64 (c_7.x1 + 2))))) rfl (TOp.r (t_cmp rfl rfl rfl rfl rfl)) (.inr ⟨_, _, _, rfl, rfl, rfl⟩) (by kernel_rfl) (VP.take (i := 44) (v := .bool (decide (c_2.x0 < (w64 (c_7.x1 + 2))))) rfl (TOp.r (t_pick (b := true) rfl rfl (fun _ => rfl) (fun h => by cases h))) (.inr ⟨_, _, _, rfl, rfl, rfl⟩) (by kernel_rfl) (VP.take (i := 45) (v := .bool (decide (c_2.x0 < (w64 (c_7.x1 + 2))))) rfl (TOp.r (t_pick (b := false) rfl rfl (fun h => by cases h) (fun _ => rfl))) (.inl rfl) (by kernel_rfl) (VP.done (by kernel_rfl) (VA.done (by kernel_rfl) (thenQ_normal ?_)))))))))
            refine VW.subK (.c 0 rfl (.c 3 rfl (.c 25 rfl (.c 26 rfl (.c 27 rfl (.c 28 rfl (.c 29 rfl (.c 30 rfl (.c 33 rfl (.c 34 rfl (.c 35 rfl (.c 36 rfl (.c 37 rfl (.c 38 rfl (.c 41 rfl (.c 42 rfl (.c 43 rfl (.c 44 rfl (.c 45 rfl (.c 46 rfl (.c 47 rfl (.c 48 rfl (.c 49 rfl (.c 50 rfl (.c 51 rfl (.c 52 rfl (.c 53 rfl (.c 54 rfl (.c 55 rfl (.c 56 rfl (.c 57 rfl (.c 58 rfl .n)))))))))))))))))))))))))))))))) rfl ?_
            refine VW.cond (b := (decide (c_2.x0 < (w64 (c_7.x1 + 2))))) rfl (fun hc_8 => ?_) (fun hc_8 => ?_)
            · replace h := iteT h hc_8
              refine VW.q (VO.a (v := .bool false) rfl (fun _ _ => rfl) (VO.n (VW.k1 2 rfl (VW.k1 2 rfl (VW.ret (blockQ_ret (thenQ_ret (thenQ_ret ?_))))))))
              obtain rfl := oi h
              exact hx1  rfl
            · replace h := iteF h hc_8
              refine VW.skip (blockQ_normal (thenQ_normal (VW.subK (.c 0 rfl (.c 3 rfl (.c 25 rfl (.c 26 rfl (.c 27 rfl (.c 28 rfl (.c 29 rfl (.c 30 rfl (.c 33 rfl (.c 34 rfl (.c 35 rfl (.c 36 rfl (.c 37 rfl (.c 38 rfl (.c 41 rfl (.c 42 rfl (.c 43 rfl (.c 44 rfl (.c 45 rfl (.c 46 rfl (.c 47 rfl (.c 48 rfl (.c 49 rfl (.c 50 rfl (.c 51 rfl (.c 52 rfl (.c 53 rfl (.c 54 rfl (.c 55 rfl (.c 56 rfl (.c 57 rfl .n))))))))))))))))))))))))))))))) rfl (VW.region (VO.m rfl rfl (VO.t (v := .i (w64 (i_0 + 1))) (t_add rfl rfl (fun _ _ => rfl) rfl) rfl rfl (VO.a (v := .i (w64 (i_0 + 1))) rfl rfl (VO.nil (thenQ_normal (VL.round ?_))))))))))
              refine VW.k2 0 3 rfl ?_
              exact ih _ _ h hx0 hx1
          · replace h := iteF h hc_6
            refine VA.s 31 rfl (by kernel_rfl) (VA.s 32 rfl (by kernel_rfl) (VA.s 33 rfl (by kernel_rfl) (VA.s 34 rfl (by kernel_rfl) (VA.s 35 rfl (by kernel_rfl) (VA.s 36 rfl (by kernel_rfl) (VA.s 37 rfl (by kernel_rfl) (VA.s 38 rfl (by kernel_rfl) (VA.s 39 rfl (by kernel_rfl) (VA.s 40 rfl (by kernel_rfl) ?_)))))))))
            refine VA.s 41 rfl (by kernel_rfl) (VA.s 42 rfl (by kernel_rfl) (VA.s 43 rfl (by kernel_rfl) (VA.t (i := 44) (v := .bool false) rfl (t_pick (b := false) rfl rfl (fun h => by cases h) (fun _ => (fun _ _ => rfl))) (.inr ⟨_, _, _, rfl, rfl, rfl⟩) (by kernel_rfl) (VA.t (i := 45) (v := .bool false) rfl (t_pick (b := false) rfl rfl (fun h => by cases h) (fun _ => rfl)) (.inl rfl) (by kernel_rfl) (VA.done (by kernel_rfl) (thenQ_normal (VW.subK (.c 0 rfl (.c 3 rfl (.c 25 rfl (.c 26 rfl (.c 27 rfl (.c 28 rfl (.c 29 rfl (.c 30 rfl (.c 33 rfl (.c 34 rfl (.c 35 rfl (.c 36 rfl (.c 37 rfl (.c 38 rfl (.c 41 rfl (.c 42 rfl (.c 43 rfl (.c 44 rfl (.c 45 rfl (.c 46 rfl (.c 47 rfl (.c 48 rfl (.c 49 rfl (.c 50 rfl (.c 51 rfl (.c 52 rfl (.c 53 rfl (.c 54 rfl (.c 55 rfl (.c 56 rfl (.c 57 rfl (.c 58 rfl .n)))))))))))))))))))))))))))))))) rfl (VW.condF rfl (VW.skip ?_)))))))))
            refine blockQ_normal (thenQ_normal (VW.subK (.c 0 rfl (.c 3 rfl (.c 25 rfl (.c 26 rfl (.c 27 rfl (.c 28 rfl (.c 29 rfl (.c 30 rfl (.c 33 rfl (.c 34 rfl (.c 35 rfl (.c 36 rfl (.c 37 rfl (.c 38 rfl (.c 41 rfl (.c 42 rfl (.c 43 rfl (.c 44 rfl (.c 45 rfl (.c 46 rfl (.c 47 rfl (.c 48 rfl (.c 49 rfl (.c 50 rfl (.c 51 rfl (.c 52 rfl (.c 53 rfl (.c 54 rfl (.c 55 rfl (.c 56 rfl (.c 57 rfl .n))))))))))))))))))))))))))))))) rfl (VW.region (VO.m rfl rfl (VO.t (v := .i (w64 (i_0 + 1))) (t_add rfl rfl (fun _ _ => rfl) rfl) rfl rfl (VO.a (v := .i (w64 (i_0 + 1))) rfl rfl (VO.nil (thenQ_normal (VL.round ?_)))))))))
            refine VW.k2 0 3 rfl ?_
            exact ih _ _ h hx0 hx1
  · replace h := iteF h hc_1
    refine VW.subN (t' := []) trivial rfl (VW.exit (thenQ_exit (thenQ_exit ?_)))
    obtain rfl := oi h
    exact hx0  rfl

theorem ref03_Valid_ok (a0 : List Pr) (r : Bool) (h : PL.ref03_Valid a0 = some r) :
    VCalls Tryd.prog 53 [.sl .fz (a0.map Pr.c)] (hq [] []) (fun v H => .bool r = v ∧ H = hq [] []) := by
  unfold PL.ref03_Valid at h
  refine VCalls.of_body 59 [2] Tryd.func53 rfl rfl rfl (nle rfl) (VW.k1 0 rfl (VW.q (VO.a (v := .bool false) rfl (fun _ _ => rfl) (VO.n (VW.k1 0 rfl (VW.seq (VW.q (VO.m rfl rfl (VO.t (v := .i (a0.length : Int)) (t_len rfl ⟨_, Tryd.underlying31⟩ rfl (by rw [List.length_map])) rfl rfl ?_)))))))))
  refine VO.t (v := .bool (decide ((a0.length : Int) > 100))) (t_cmp rfl rfl rfl (fun _ _ => rfl) rfl) rfl rfl (VO.n (VW.k2 0 6 rfl ?_))
  refine VW.cond (b := (decide ((a0.length : Int) > 100))) rfl (fun hc_0 => ?_) (fun hc_0 => ?_)
  · replace h := iteT h hc_0
    refine VW.q (VO.a (v := .bool false) rfl (fun _ _ => rfl) (VO.n (VW.ret (thenQ_ret ?_))))
    cases oi h
    exact ret0 rfl rfl ⟨rfl, rfl⟩
  · replace h := iteF h hc_0
    refine VW.skip (thenQ_normal (VW.k1 0 rfl (VW.seq (VW.q (VO.a (v := .i 0) rfl (fun _ _ => rfl) (VO.n (VW.block (VW.k2 0 3 rfl ?_))))))))
    obtain ⟨o_1, hx_2, h⟩ := obind h
    refine VW.loopL (ref03_Valid.l0_ok a0 _ _ hx_2 ?_ ?_)
    · intro ho_
      subst ho_
      try dsimp only at h
      refine blockQ_hit (thenQ_normal (VW.q (VO.a (v := .bool true) rfl (fun _ _ => rfl) (VO.n (VW.ret ?_)))))
      cases oi h
      exact ret0 rfl rfl ⟨rfl, rfl⟩
    · intro ho_
      subst ho_
      try dsimp only at h
      refine blockQ_ret (thenQ_ret ?_)
      obtain rfl := oi h
      exact ⟨.inr rfl, rfl, _, .bool false, hq [] [], rfl, VLe.refl _, hq_sub .slnil .slnil, rfl, rfl⟩

theorem ref03_Hull_ok (a0 : List Pr) (r : Int × Int × Int) (h : PL.ref03_Hull a0 = some r) :
    VCalls Tryd.prog 35 [.sl .fz (a0.map Pr.c)] (hq [] []) (fun v H => .tup [.i r.1, .i r.2.1, .i r.2.2] = v ∧ H = hq [] []) := by
  unfold PL.ref03_Hull at h
  refine VCalls.of_body 22 [2, 3, 4] Tryd.func35 rfl rfl rfl (nle rfl) (VW.k1 0 rfl (VW.q (VO.a (v := .i 0) rfl (fun _ _ => rfl) (VO.a (v := .i 0) rfl (fun _ _ => rfl) (VO.a (v := .i 0) rfl (fun _ _ => rfl) (VO.n (VW.k1 0 rfl (VW.seq (VW.q ?_)))))))))
  refine VO.m rfl rfl ?_
  obtain ⟨rv_0, hx_1, h⟩ := obind h
  refine VO.k (w_keep rfl fn53 rfl ⟨_, _, rfl, rfl, rfl⟩ (ref03_Valid_ok _ _ hx_1)) rfl rfl (VO.t (v := .bool (!rv_0)) (t_not rfl rfl rfl) rfl rfl (VO.n (VW.k2 0 7 rfl ?_)))
  refine VW.cond (b := (!rv_0)) rfl (fun hc_2 => ?_) (fun hc_2 => ?_)
  · replace h := iteT h hc_2
    refine VW.q (VO.a (v := .i 0) rfl (fun _ _ => rfl) (VO.a (v := .i 0) rfl (fun _ _ => rfl) (VO.a (v := .i 1) rfl (fun _ _ => rfl) (VO.n (VW.k3 2 3 4 rfl (VW.ret (thenQ_ret ?_)))))))
    obtain rfl := oi h
    exact ⟨.inr rfl, rfl, _, .tup [.i 0, .i 0, .i 1], hq [] [], ⟨_, _, _, rfl, rfl, rfl, rfl⟩, VLe.tup ⟨VLe.refl _, VLe.refl _, VLe.refl _, trivial⟩, hq_sub .slnil .slnil, rfl, rfl⟩
  · replace h := iteF h hc_2
    refine VW.skip (thenQ_normal (VW.k1 0 rfl (VW.seq (VW.q (VO.m rfl rfl (VO.t (v := .i (a0.length : Int)) (t_len rfl ⟨_, Tryd.underlying31⟩ rfl (by rw [List.length_map])) rfl rfl (VO.t (v := .bool ((a0.length : Int) == 0)) (t_cmp rfl rfl rfl (fun _ _ => rfl) rfl) rfl rfl (VO.n (VW.k2 0 10 rfl ?_)))))))))
    refine VW.cond (b := ((a0.length : Int) == 0)) rfl (fun hc_3 => ?_) (fun hc_3 => ?_)
    · replace h := iteT h hc_3
      refine VW.q (VO.a (v := .i 0) rfl (fun _ _ => rfl) (VO.a (v := .i 0) rfl (fun _ _ => rfl) (VO.a (v := .i 3) rfl (fun _ _ => rfl) (VO.n (VW.k3 2 3 4 rfl (VW.ret (thenQ_ret ?_)))))))
      obtain rfl := oi h
      exact ⟨.inr rfl, rfl, _, .tup [.i 0, .i 0, .i 3], hq [] [], ⟨_, _, _, rfl, rfl, rfl, rfl⟩, VLe.tup ⟨VLe.refl _, VLe.refl _, VLe.refl _, trivial⟩, hq_sub .slnil .slnil, rfl, rfl⟩
    · replace h := iteF h hc_3
      refine VW.skip (thenQ_normal (VW.k1 0 rfl (VW.seq (VW.draw 14 mix rfl (VA.phase (g := 0) [0, 1, 2, 3, 4, 5, 6, 7, 8, 9, 10, 11, 12, 13] 14 (VP.take (i := 0) rfl (TOp.r (t_move rfl rfl)) (.inl rfl) (by kernel_rfl) ?_))))))
      obtain ⟨c_4, hc_4, h⟩ := obind h
      refine VP.take (i := 1) (v := .vptr (Pr.c c_4)) rfl (TOp.r (t_indexAddr rfl sl31 rfl (fun _ _ => rfl) (getI_some hc_4).1 (map_get (getI_some hc_4).2 (Pr.c_eq c_4)) rfl)) (.inl rfl) (by kernel_rfl) (VP.take (i := 2) (v := .vptr (Pr.c c_4)) rfl (TOp.r (t_indexAddr_arr rfl ar59 rfl (fun _ _ => rfl) (by decide) (by decide) rfl)) (.inl rfl) (by kernel_rfl) (VP.take (i := 3) (v := .i c_4.x0) rfl (r_load_v rfl sz3 rfl rfl) (.inl rfl) (by kernel_rfl) (VP.take (i := 4) rfl (TOp.r (t_move rfl rfl)) (.inl rfl) (by kernel_rfl) (VP.take (i := 5) rfl (TOp.r (t_move rfl rfl)) (.inl rfl) (by kernel_rfl) (VP.take (i := 6) (v := .i (a0.length : Int)) rfl (TOp.r (t_len rfl ⟨_, Tryd.underlying31⟩ rfl (by rw [List.length_map]))) (.inl rfl) (by kernel_rfl) (VP.take (i := 7) (v := .i (w64 ((a0.length : Int) - 1))) rfl (TOp.r (t_sub rfl rfl (fun _ _ => rfl) rfl)) (.inl rfl) (by kernel_rfl) ?_))))))
      obtain ⟨c_5, hc_5, h⟩ := obind h
      refine VP.take (i := 8) (v := .vptr (Pr.c c_5)) rfl (TOp.r (t_indexAddr rfl sl31 rfl rfl (getI_some hc_5).1 (map_get (getI_some hc_5).2 (Pr.c_eq c_5)) rfl)) (.inl rfl) (by kernel_rfl) (VP.take (i := 9) (v := .vptr [.i c_5.x1]) rfl (TOp.r (t_indexAddr_arr rfl ar59 rfl (fun _ _ => rfl) (by decide) (by decide) rfl)) (.inl rfl) (by kernel_rfl) (VP.take (i := 10) (v := .i c_5.x1) rfl (r_load_v rfl sz3 rfl rfl) (.inl rfl) (by kernel_rfl) (VP.take (i := 11) (v := .i c_4.x0) rfl (TOp.r (t_assign rfl rfl)) (.inl rfl) (by kernel_rfl) (VP.take (i := 12) (v := .i c_5.x1) rfl (TOp.r (t_assign rfl rfl)) (.inl rfl) (by kernel_rfl) (VP.take (i := 13) (v := .i 0) rfl (TOp.r (t_assign rfl (fun _ _ => rfl))) (.inl rfl) (by kernel_rfl) (VP.done (by kernel_rfl) (VA.done (by kernel_rfl) (thenQ_normal (VW.k3 2 3 4 rfl ?_)))))))))
      refine VW.ret ?_
      obtain rfl := oi h
      exact ⟨.inr rfl, rfl, _, .tup [.i c_4.x0, .i c_5.x1, .i 0], hq [] [], ⟨_, _, _, rfl, rfl, rfl, rfl⟩, VLe.tup ⟨VLe.refl _, VLe.refl _, VLe.refl _, trivial⟩, hq_sub .slnil .slnil, rfl, rfl⟩

theorem ref03_Effective_ok (a0 : Node) (r : GoType × Int) (h : PL.ref03_Effective a0 = some r) :
    VCalls Tryd.prog 19 [.agg (Node.l a0)] (hq [] []) (fun v H => .tup [.agg (GoType.c r.1), .i r.2] = v ∧ H = hq [] []) := by
  unfold PL.ref03_Effective at h
  refine VCalls.of_cell2 44 2 52 3 Tryd.func19 rfl rfl rfl (nle rfl) (VW.k1 0 rfl (VW.q (VO.w (fun v H' => ∃ ob_0, .ptr ob_0 0 = v ∧ H' = hq ([[(ob_0, .cells (Node.l a0))]]) []) (w_box_q rfl rfl rfl (fun ob => ⟨ob, rfl, rfl⟩)) rfl rfl ?_)))
  rintro _ _ ⟨ob_0, rfl, rfl⟩
  refine VO.w (fun v H' => ∃ ob_1, .ptr ob_1 0 = v ∧ H' = hq ([[(ob_1, .cells [.i 0, .str ByteArray.empty, .i 0, .i 0, .bool false, .bool false, .sl .nl [], .sl .nl []])], [(ob_0, .cells (Node.l a0))]]) []) (w_alloc_q rfl zt52 (fun ob => ⟨ob, rfl, rfl⟩)) rfl rfl ?_
  rintro _ _ ⟨ob_1, rfl, rfl⟩
  refine VO.a (v := .i 0) rfl (fun _ _ => rfl) (VO.n (VW.k2 1 2 rfl (VW.q (VO.r (v := .agg (Node.l a0)) (r_load_q (i := 1) rfl sz24 rfl rfl rfl) rfl rfl ?_))))
  obtain ⟨⟨rv_2, rv_3⟩, hx_4, h⟩ := obind h
  try dsimp only at h
  refine VO.k (w_keep rfl fn8 rfl ⟨_, _, rfl, rfl, rfl⟩ (ref03_Of_ok _ _ hx_4)) rfl rfl (VO.m rfl rfl (VO.t (v := .sl .fz (rv_2.map Pr.c)) (t_extract rfl rfl rfl) rfl rfl (VO.t (v := .i rv_3) (t_extract rfl rfl rfl) rfl rfl (VO.a (v := .sl .fz (rv_2.map Pr.c)) rfl rfl (VO.a (v := .i rv_3) rfl rfl (VO.n (VW.k4 1 2 4 5 rfl (VW.seq (VW.q ?_)))))))))
  refine VO.m rfl rfl (VO.t (v := .bool (rv_3 != 0)) (t_cmp rfl rfl rfl (fun _ _ => rfl) rfl) rfl rfl (VO.n (VW.k5 1 2 4 5 14 rfl ?_)))
  refine VW.cond (b := (rv_3 != 0)) rfl (fun hc_5 => ?_) (fun hc_5 => ?_)
  · replace h := iteT h hc_5
    refine VW.q (VO.t (v := .agg [.i 0, .str ByteArray.empty, .i 0, .i 0, .bool false, .bool false, .sl .nl [], .sl .nl []]) (t_build rfl st52 rfl rfl) rfl rfl (VO.m rfl rfl (VO.w (fun v H' => .any = v ∧ H' = hq ([[(ob_1, .cells [.i 0, .str ByteArray.empty, .i 0, .i 0, .bool false, .bool false, .sl .nl [], .sl .nl []])], [(ob_0, .cells (Node.l a0))]]) []) (w_store_q (i := 0) rfl sz52 rfl rfl rfl rfl rfl (nle rfl) ⟨rfl, rfl⟩) rfl rfl ?_)))
    rintro _ _ ⟨rfl, rfl⟩
    refine VO.a (v := .i rv_3) rfl rfl (VO.n (VW.k2 2 3 rfl (VW.hsub (A := hq ([[(ob_1, .cells [.i 0, .str ByteArray.empty, .i 0, .i 0, .bool false, .bool false, .sl .nl [], .sl .nl []])]]) []) (hq_sub (.cons_cons _ (.cons _ .slnil)) .slnil) (VW.ret (thenQ_ret ?_)))))
    obtain rfl := oi h
    exact ⟨.inr rfl, rfl, _, _, 0, _, _, _, _, _, .tup [.agg [.i ((GoType.mk 0 ByteArray.empty 0 0 false false [] []).Kind), .str ((GoType.mk 0 ByteArray.empty 0 0 false false [] []).Name), .i ((GoType.mk 0 ByteArray.empty 0 0 false false [] []).Lo), .i ((GoType.mk 0 ByteArray.empty 0 0 false false [] []).Hi), .bool ((GoType.mk 0 ByteArray.empty 0 0 false false [] []).Free), .bool ((GoType.mk 0 ByteArray.empty 0 0 false false [] []).Ext), .sl .fz (((GoType.mk 0 ByteArray.empty 0 0 false false [] []).Items).map cRaw), .sl .fz (((GoType.mk 0 ByteArray.empty 0 0 false false [] []).Kids).map cRaw)], .i rv_3], hq [] [], rfl, rfl, sz52, rfl, rfl, VLe.tup ⟨VLe.agg ⟨VLe.refl _, VLe.refl _, VLe.refl _, VLe.refl _, VLe.refl _, VLe.refl _, VLe.sl _ _, VLe.sl _ _, trivial⟩, VLe.refl _, trivial⟩, hq_sub (.cons _ .slnil) .slnil, rfl, rfl⟩
  · replace h := iteF h hc_5
    refine VW.skip (thenQ_normal (VW.k3 1 2 4 rfl (VW.q (VO.m rfl rfl ?_))))
    obtain ⟨⟨rv_6, rv_7, rv_8⟩, hx_9, h⟩ := obind h
    try dsimp only at h
    refine VO.k (w_keep rfl fn35 rfl ⟨_, _, rfl, rfl, rfl⟩ (ref03_Hull_ok _ _ hx_9)) rfl rfl (VO.m rfl rfl (VO.t (v := .i rv_6) (t_extract rfl rfl rfl) rfl rfl (VO.t (v := .i rv_7) (t_extract rfl rfl rfl) rfl rfl (VO.t (v := .i rv_8) (t_extract rfl rfl rfl) rfl rfl (VO.a (v := .i rv_6) rfl rfl (VO.a (v := .i rv_7) rfl rfl (VO.a (v := .i rv_8) rfl rfl (VO.n (VW.k6 1 2 4 6 7 5 rfl ?_)))))))))
    refine VW.seq (VW.q (VO.m rfl rfl (VO.t (v := .bool (rv_8 != 0)) (t_cmp rfl rfl rfl (fun _ _ => rfl) rfl) rfl rfl (VO.n (VW.k7 1 2 4 6 7 5 24 rfl ?_)))))
    refine VW.cond (b := (rv_8 != 0)) rfl (fun hc_10 => ?_) (fun hc_10 => ?_)
    · replace h := iteT h hc_10
      refine VW.q (VO.t (v := .agg [.i 0, .str ByteArray.empty, .i 0, .i 0, .bool false, .bool false, .sl .nl [], .sl .nl []]) (t_build rfl st52 rfl rfl) rfl rfl (VO.m rfl rfl (VO.w (fun v H' => .any = v ∧ H' = hq ([[(ob_1, .cells [.i 0, .str ByteArray.empty, .i 0, .i 0, .bool false, .bool false, .sl .nl [], .sl .nl []])], [(ob_0, .cells (Node.l a0))]]) []) (w_store_q (i := 0) rfl sz52 rfl rfl rfl rfl rfl (nle rfl) ⟨rfl, rfl⟩) rfl rfl ?_)))
      rintro _ _ ⟨rfl, rfl⟩
      refine VO.a (v := .i rv_8) rfl rfl (VO.n (VW.k2 2 3 rfl (VW.hsub (A := hq ([[(ob_1, .cells [.i 0, .str ByteArray.empty, .i 0, .i 0, .bool false, .bool false, .sl .nl [], .sl .nl []])]]) []) (hq_sub (.cons_cons _ (.cons _ .slnil)) .slnil) (VW.ret (thenQ_ret ?_)))))
      obtain rfl := oi h
      exact ⟨.inr rfl, rfl, _, _, 0, _, _, _, _, _, .tup [.agg [.i ((GoType.mk 0 ByteArray.empty 0 0 false false [] []).Kind), .str ((GoType.mk 0 ByteArray.empty 0 0 false false [] []).Name), .i ((GoType.mk 0 ByteArray.empty 0 0 false false [] []).Lo), .i ((GoType.mk 0 ByteArray.empty 0 0 false false [] []).Hi), .bool ((GoType.mk 0 ByteArray.empty 0 0 false false [] []).Free), .bool ((GoType.mk 0 ByteArray.empty 0 0 false false [] []).Ext), .sl .fz (((GoType.mk 0 ByteArray.empty 0 0 false false [] []).Items).map cRaw), .sl .fz (((GoType.mk 0 ByteArray.empty 0 0 false false [] []).Kids).map cRaw)], .i rv_8], hq [] [], rfl, rfl, sz52, rfl, rfl, VLe.tup ⟨VLe.agg ⟨VLe.refl _, VLe.refl _, VLe.refl _, VLe.refl _, VLe.refl _, VLe.refl _, VLe.sl _ _, VLe.sl _ _, trivial⟩, VLe.refl _, trivial⟩, hq_sub (.cons _ .slnil) .slnil, rfl, rfl⟩
    · replace h := iteF h hc_10
      refine VW.skip (thenQ_normal (VW.k5 1 2 4 6 7 rfl (VW.seq (VW.q (VO.m rfl rfl (VO.t (v := .i (rv_2.length : Int)) (t_len rfl ⟨_, Tryd.underlying31⟩ rfl (by rw [List.length_map])) rfl rfl (VO.t (v := .bool ((rv_2.length : Int) == 1)) (t_cmp rfl rfl rfl (fun _ _ => rfl) rfl) rfl rfl (VO.m rfl rfl ?_))))))))
      refine VO.caseB (d := 30) (b := ((rv_2.length : Int) == 1)) rfl (fun hc_11 => ?_) (fun hc_11 => ?_)
      · replace h := iteT h hc_11
        refine VO.gt (v := .i rv_6) (t_move rfl rfl) rfl rfl rfl rfl (VO.gt (v := .bool (rv_6 == (-1000000000000000))) (t_cmp rfl rfl rfl (fun _ _ => rfl) rfl) rfl rfl rfl rfl (VO.t (v := .bool (rv_6 == (-1000000000000000))) (t_pick (b := true) rfl rfl (fun _ => rfl) (fun h => by cases h)) rfl rfl (VO.m rfl rfl ?_)))
        refine VO.caseB (d := 34) (b := (rv_6 == (-1000000000000000))) rfl (fun hc_12 => ?_) (fun hc_12 => ?_)
        · replace h := iteT h hc_12
          refine VO.gt (v := .i rv_7) (t_move rfl rfl) rfl rfl rfl rfl (VO.gt (v := .bool (rv_7 == 1000000000000000)) (t_cmp rfl rfl rfl (fun _ _ => rfl) rfl) rfl rfl rfl rfl (VO.t (v := .bool (rv_7 == 1000000000000000)) (t_pick (b := true) rfl rfl (fun _ => rfl) (fun h => by cases h)) rfl rfl (VO.n (VW.k5 1 2 6 7 37 rfl ?_))))
          refine VW.cond (b := (rv_7 == 1000000000000000)) rfl (fun hc_13 => ?_) (fun hc_13 => ?_)
          · replace h := iteT h hc_13
            refine VW.q (VO.t (v := .agg [.i 2, .str ByteArray.empty, .i 0, .i 0, .bool true, .bool false, .sl .nl [], .sl .nl []]) (t_build rfl st52 ⟨.i 2, _, rfl, (fun _ _ => rfl), rfl, .bool true, _, rfl, (fun _ _ => rfl), rfl, rfl⟩ rfl) rfl rfl (VO.w (fun v H' => .any = v ∧ H' = hq ([[(ob_1, .cells [.i 2, .str ByteArray.empty, .i 0, .i 0, .bool true, .bool false, .sl .nl [], .sl .nl []])], [(ob_0, .cells (Node.l a0))]]) []) (w_store_q (i := 0) rfl sz52 rfl rfl rfl rfl rfl (nle rfl) ⟨rfl, rfl⟩) rfl rfl ?_))
            rintro _ _ ⟨rfl, rfl⟩
            refine VO.a (v := .i 0) rfl (fun _ _ => rfl) (VO.n (VW.k2 2 3 rfl (VW.hsub (A := hq ([[(ob_1, .cells [.i 2, .str ByteArray.empty, .i 0, .i 0, .bool true, .bool false, .sl .nl [], .sl .nl []])]]) []) (hq_sub (.cons_cons _ (.cons _ .slnil)) .slnil) (VW.ret (thenQ_ret ?_)))))
            obtain rfl := oi h
            exact ⟨.inr rfl, rfl, _, _, 0, _, _, _, _, _, .tup [.agg [.i ((GoType.mk 2 ByteArray.empty 0 0 true false [] []).Kind), .str ((GoType.mk 2 ByteArray.empty 0 0 true false [] []).Name), .i ((GoType.mk 2 ByteArray.empty 0 0 true false [] []).Lo), .i ((GoType.mk 2 ByteArray.empty 0 0 true false [] []).Hi), .bool ((GoType.mk 2 ByteArray.empty 0 0 true false [] []).Free), .bool ((GoType.mk 2 ByteArray.empty 0 0 true false [] []).Ext), .sl .fz (((GoType.mk 2 ByteArray.empty 0 0 true false [] []).Items).map cRaw), .sl .fz (((GoType.mk 2 ByteArray.empty 0 0 true false [] []).Kids).map cRaw)], .i 0], hq [] [], rfl, rfl, sz52, rfl, rfl, VLe.tup ⟨VLe.agg ⟨VLe.refl _, VLe.refl _, VLe.refl _, VLe.refl _, VLe.refl _, VLe.refl _, VLe.sl _ _, VLe.sl _ _, trivial⟩, VLe.refl _, trivial⟩, hq_sub (.cons _ .slnil) .slnil, rfl, rfl⟩
          · replace h := iteF h hc_13
            refine VW.skip (thenQ_normal (VW.k4 1 2 6 7 rfl (VW.q (VO.m rfl rfl (VO.m rfl rfl (VO.r (v := .agg (Node.l a0)) (r_load_q (i := 1) rfl sz24 rfl rfl rfl) rfl rfl ?_))))))
            obtain ⟨rv_14, hx_15, h⟩ := obind h
            refine VO.k (w_keep rfl fn29 rfl ⟨_, _, rfl, rfl, rfl⟩ (ref03_extends_ok _ _ hx_15)) rfl rfl (VO.t (v := .agg [.i 2, .str ByteArray.empty, .i rv_6, .i rv_7, .bool false, .bool rv_14, .sl .nl [], .sl .nl []]) (t_build rfl st52 ⟨.i 2, _, rfl, (fun _ _ => rfl), rfl, _, _, rfl, rfl, rfl, _, _, rfl, rfl, rfl, _, _, rfl, rfl, rfl, rfl⟩ rfl) rfl rfl (VO.w (fun v H' => .any = v ∧ H' = hq ([[(ob_1, .cells [.i 2, .str ByteArray.empty, .i rv_6, .i rv_7, .bool false, .bool rv_14, .sl .nl [], .sl .nl []])], [(ob_0, .cells (Node.l a0))]]) []) (w_store_q (i := 0) rfl sz52 rfl rfl rfl rfl rfl (nle rfl) ⟨rfl, rfl⟩) rfl rfl ?_))
            rintro _ _ ⟨rfl, rfl⟩
            refine VO.a (v := .i 0) rfl (fun _ _ => rfl) (VO.n (VW.k2 2 3 rfl (VW.hsub (A := hq ([[(ob_1, .cells [.i 2, .str ByteArray.empty, .i rv_6, .i rv_7, .bool false, .bool rv_14, .sl .nl [], .sl .nl []])]]) []) (hq_sub (.cons_cons _ (.cons _ .slnil)) .slnil) (VW.ret ?_))))
            obtain rfl := oi h
            exact ⟨.inr rfl, rfl, _, _, 0, _, _, _, _, _, .tup [.agg [.i ((GoType.mk 2 ByteArray.empty rv_6 rv_7 false rv_14 [] []).Kind), .str ((GoType.mk 2 ByteArray.empty rv_6 rv_7 false rv_14 [] []).Name), .i ((GoType.mk 2 ByteArray.empty rv_6 rv_7 false rv_14 [] []).Lo), .i ((GoType.mk 2 ByteArray.empty rv_6 rv_7 false rv_14 [] []).Hi), .bool ((GoType.mk 2 ByteArray.empty rv_6 rv_7 false rv_14 [] []).Free), .bool ((GoType.mk 2 ByteArray.empty rv_6 rv_7 false rv_14 [] []).Ext), .sl .fz (((GoType.mk 2 ByteArray.empty rv_6 rv_7 false rv_14 [] []).Items).map cRaw), .sl .fz (((GoType.mk 2 ByteArray.empty rv_6 rv_7 false rv_14 [] []).Kids).map cRaw)], .i 0], hq [] [], rfl, rfl, sz52, rfl, rfl, VLe.tup ⟨VLe.agg ⟨VLe.refl _, VLe.refl _, VLe.refl _, VLe.refl _, VLe.refl _, VLe.refl _, VLe.sl _ _, VLe.sl _ _, trivial⟩, VLe.refl _, trivial⟩, hq_sub (.cons _ .slnil) .slnil, rfl, rfl⟩
        · replace h := iteF h hc_12
          refine VO.s rfl (VO.s rfl (VO.t (v := .bool false) (t_pick (b := false) rfl rfl (fun h => by cases h) (fun _ => (fun _ _ => rfl))) rfl rfl (VO.n (VW.k5 1 2 6 7 37 rfl (VW.condF rfl (VW.skip (thenQ_normal (VW.k4 1 2 6 7 rfl (VW.q ?_)))))))))
          refine VO.m rfl rfl (VO.m rfl rfl (VO.r (v := .agg (Node.l a0)) (r_load_q (i := 1) rfl sz24 rfl rfl rfl) rfl rfl ?_))
          obtain ⟨rv_16, hx_17, h⟩ := obind h
          refine VO.k (w_keep rfl fn29 rfl ⟨_, _, rfl, rfl, rfl⟩ (ref03_extends_ok _ _ hx_17)) rfl rfl (VO.t (v := .agg [.i 2, .str ByteArray.empty, .i rv_6, .i rv_7, .bool false, .bool rv_16, .sl .nl [], .sl .nl []]) (t_build rfl st52 ⟨.i 2, _, rfl, (fun _ _ => rfl), rfl, _, _, rfl, rfl, rfl, _, _, rfl, rfl, rfl, _, _, rfl, rfl, rfl, rfl⟩ rfl) rfl rfl (VO.w (fun v H' => .any = v ∧ H' = hq ([[(ob_1, .cells [.i 2, .str ByteArray.empty, .i rv_6, .i rv_7, .bool false, .bool rv_16, .sl .nl [], .sl .nl []])], [(ob_0, .cells (Node.l a0))]]) []) (w_store_q (i := 0) rfl sz52 rfl rfl rfl rfl rfl (nle rfl) ⟨rfl, rfl⟩) rfl rfl ?_))
          rintro _ _ ⟨rfl, rfl⟩
          refine VO.a (v := .i 0) rfl (fun _ _ => rfl) (VO.n (VW.k2 2 3 rfl (VW.hsub (A := hq ([[(ob_1, .cells [.i 2, .str ByteArray.empty, .i rv_6, .i rv_7, .bool false, .bool rv_16, .sl .nl [], .sl .nl []])]]) []) (hq_sub (.cons_cons _ (.cons _ .slnil)) .slnil) (VW.ret ?_))))
          obtain rfl := oi h
          exact ⟨.inr rfl, rfl, _, _, 0, _, _, _, _, _, .tup [.agg [.i ((GoType.mk 2 ByteArray.empty rv_6 rv_7 false rv_16 [] []).Kind), .str ((GoType.mk 2 ByteArray.empty rv_6 rv_7 false rv_16 [] []).Name), .i ((GoType.mk 2 ByteArray.empty rv_6 rv_7 false rv_16 [] []).Lo), .i ((GoType.mk 2 ByteArray.empty rv_6 rv_7 false rv_16 [] []).Hi), .bool ((GoType.mk 2 ByteArray.empty rv_6 rv_7 false rv_16 [] []).Free), .bool ((GoType.mk 2 ByteArray.empty rv_6 rv_7 false rv_16 [] []).Ext), .sl .fz (((GoType.mk 2 ByteArray.empty rv_6 rv_7 false rv_16 [] []).Items).map cRaw), .sl .fz (((GoType.mk 2 ByteArray.empty rv_6 rv_7 false rv_16 [] []).Kids).map cRaw)], .i 0], hq [] [], rfl, rfl, sz52, rfl, rfl, VLe.tup ⟨VLe.agg ⟨VLe.refl _, VLe.refl _, VLe.refl _, VLe.refl _, VLe.refl _, VLe.refl _, VLe.sl _ _, VLe.sl _ _, trivial⟩, VLe.refl _, trivial⟩, hq_sub (.cons _ .slnil) .slnil, rfl, rfl⟩
      · replace h := iteF h hc_11
        refine VO.s rfl (VO.s rfl (VO.t (v := .bool false) (t_pick (b := false) rfl rfl (fun h => by cases h) (fun _ => (fun _ _ => rfl))) rfl rfl (VO.m rfl rfl (VO.s rfl (VO.s rfl (VO.t (v := .bool false) (t_pick (b := false) rfl rfl (fun h => by cases h) (fun _ => (fun _ _ => rfl))) rfl rfl (VO.n (VW.k5 1 2 6 7 37 rfl (VW.condF rfl ?_)))))))))
        refine VW.skip (thenQ_normal (VW.k4 1 2 6 7 rfl (VW.q (VO.m rfl rfl (VO.m rfl rfl (VO.r (v := .agg (Node.l a0)) (r_load_q (i := 1) rfl sz24 rfl rfl rfl) rfl rfl ?_))))))
        obtain ⟨rv_18, hx_19, h⟩ := obind h
        refine VO.k (w_keep rfl fn29 rfl ⟨_, _, rfl, rfl, rfl⟩ (ref03_extends_ok _ _ hx_19)) rfl rfl (VO.t (v := .agg [.i 2, .str ByteArray.empty, .i rv_6, .i rv_7, .bool false, .bool rv_18, .sl .nl [], .sl .nl []]) (t_build rfl st52 ⟨.i 2, _, rfl, (fun _ _ => rfl), rfl, _, _, rfl, rfl, rfl, _, _, rfl, rfl, rfl, _, _, rfl, rfl, rfl, rfl⟩ rfl) rfl rfl (VO.w (fun v H' => .any = v ∧ H' = hq ([[(ob_1, .cells [.i 2, .str ByteArray.empty, .i rv_6, .i rv_7, .bool false, .bool rv_18, .sl .nl [], .sl .nl []])], [(ob_0, .cells (Node.l a0))]]) []) (w_store_q (i := 0) rfl sz52 rfl rfl rfl rfl rfl (nle rfl) ⟨rfl, rfl⟩) rfl rfl ?_))
        rintro _ _ ⟨rfl, rfl⟩
        refine VO.a (v := .i 0) rfl (fun _ _ => rfl) (VO.n (VW.k2 2 3 rfl (VW.hsub (A := hq ([[(ob_1, .cells [.i 2, .str ByteArray.empty, .i rv_6, .i rv_7, .bool false, .bool rv_18, .sl .nl [], .sl .nl []])]]) []) (hq_sub (.cons_cons _ (.cons _ .slnil)) .slnil) (VW.ret ?_))))
        obtain rfl := oi h
        exact ⟨.inr rfl, rfl, _, _, 0, _, _, _, _, _, .tup [.agg [.i ((GoType.mk 2 ByteArray.empty rv_6 rv_7 false rv_18 [] []).Kind), .str ((GoType.mk 2 ByteArray.empty rv_6 rv_7 false rv_18 [] []).Name), .i ((GoType.mk 2 ByteArray.empty rv_6 rv_7 false rv_18 [] []).Lo), .i ((GoType.mk 2 ByteArray.empty rv_6 rv_7 false rv_18 [] []).Hi), .bool ((GoType.mk 2 ByteArray.empty rv_6 rv_7 false rv_18 [] []).Free), .bool ((GoType.mk 2 ByteArray.empty rv_6 rv_7 false rv_18 [] []).Ext), .sl .fz (((GoType.mk 2 ByteArray.empty rv_6 rv_7 false rv_18 [] []).Items).map cRaw), .sl .fz (((GoType.mk 2 ByteArray.empty rv_6 rv_7 false rv_18 [] []).Kids).map cRaw)], .i 0], hq [] [], rfl, rfl, sz52, rfl, rfl, VLe.tup ⟨VLe.agg ⟨VLe.refl _, VLe.refl _, VLe.refl _, VLe.refl _, VLe.refl _, VLe.refl _, VLe.sl _ _, VLe.sl _ _, trivial⟩, VLe.refl _, trivial⟩, hq_sub (.cons _ .slnil) .slnil, rfl, rfl⟩

theorem law03_SetOf_ok (a0 : Node) (r : Bool) (h : PL.law03_SetOf a0 = some r) :
    VCalls Tryd.prog 3 [.agg (Node.l a0)] (hq [] []) (fun v H => .bool r = v ∧ H = hq [] []) := by
  unfold PL.law03_SetOf at h
  refine VCalls.of_body 168 [2] Tryd.func3 rfl rfl rfl (nle rfl) (VW.k1 0 rfl (VW.q (VO.w (fun v H' => ∃ ob_0, .ptr ob_0 0 = v ∧ H' = hq ([[(ob_0, .cells (Node.l a0))]]) []) (w_box_q rfl rfl rfl (fun ob => ⟨ob, rfl, rfl⟩)) rfl rfl ?_)))
  rintro _ _ ⟨ob_0, rfl, rfl⟩
  refine VO.a (v := .bool false) rfl (fun _ _ => rfl) (VO.n (VW.k1 1 rfl (VW.seq (VW.q (VO.r (v := .agg (Node.l a0)) (r_load_q (i := 0) rfl sz24 rfl rfl rfl) rfl rfl ?_)))))
  obtain ⟨rv_1, hx_2, h⟩ := obind h
  refine VO.k (w_keep rfl fn4 rfl ⟨_, _, rfl, rfl, rfl⟩ (law03_large_ok _ _ hx_2)) rfl rfl (VO.n (VW.k2 1 17 rfl ?_))
  refine VW.cond (b := rv_1) rfl (fun hc_3 => ?_) (fun hc_3 => ?_)
  · replace h := iteT h hc_3
    refine VW.q ?_
    obtain ⟨rv_4, hx_5, h⟩ := obind h
    refine VO.k (w_keep rfl fn5 rfl rfl (law03_sane_ok  _ hx_5)) rfl rfl (VO.a (v := .bool rv_4) rfl rfl (VO.n (VW.ret (thenQ_ret ?_))))
    cases oi h
    exact ret0 rfl rfl ⟨rfl, rfl⟩
  · replace h := iteF h hc_3
    refine VW.skip (thenQ_normal (VW.k1 1 rfl (VW.q (VO.r (v := .agg (Node.l a0)) (r_load_q (i := 0) rfl sz24 rfl rfl rfl) rfl rfl ?_))))
    obtain ⟨rv_6, hx_7, h⟩ := obind h
    refine VO.k (w_keep rfl fn6 rfl ⟨_, _, rfl, rfl, rfl⟩ (law03_node_ok _ _ hx_7)) rfl rfl (VO.w (fun v H' => ∃ ob_8, .ptr ob_8 0 = v ∧ H' = hq ([[(ob_8, .cells [.i 0, .i 0, .i 0, .sl .nl []])], [(ob_0, .cells (Node.l a0))]]) []) (w_alloc_q rfl zt29 (fun ob => ⟨ob, rfl, rfl⟩)) rfl rfl ?_)
    rintro _ _ ⟨ob_8, rfl, rfl⟩
    refine VO.w (fun v H' => .any = v ∧ H' = hq ([[(ob_8, .cells (Node.l rv_6))], [(ob_0, .cells (Node.l a0))]]) []) (w_store_q (i := 0) rfl sz29 rfl rfl rfl rfl rfl (nle rfl) ⟨rfl, rfl⟩) rfl rfl ?_
    rintro _ _ ⟨rfl, rfl⟩
    refine VO.n (VW.k2 1 3 rfl (VW.q (VO.r (v := .agg (Node.l rv_6)) (r_load_q (i := 0) rfl sz29 rfl rfl rfl) rfl rfl ?_)))
    obtain ⟨⟨rv_9, rv_10⟩, hx_11, h⟩ := obind h
    try dsimp only at h
    refine VO.k (w_keep rfl fn7 rfl ⟨_, _, rfl, rfl, rfl⟩ (set_Of_ok _ _ hx_11)) rfl rfl (VO.m rfl rfl (VO.t (v := .sl .fz (rv_9.map Pr.c)) (t_extract rfl rfl rfl) rfl rfl (VO.t (v := .i rv_10) (t_extract rfl rfl rfl) rfl rfl (VO.a (v := .sl .fz (rv_9.map Pr.c)) rfl rfl (VO.a (v := .i rv_10) rfl rfl (VO.n (VW.k4 1 3 4 5 rfl (VW.q (VO.r (v := .agg (Node.l a0)) (r_load_q (i := 1) rfl sz24 rfl rfl rfl) rfl rfl ?_)))))))))
    obtain ⟨⟨rv_12, rv_13⟩, hx_14, h⟩ := obind h
    try dsimp only at h
    refine VO.k (w_keep rfl fn8 rfl ⟨_, _, rfl, rfl, rfl⟩ (ref03_Of_ok _ _ hx_14)) rfl rfl (VO.m rfl rfl (VO.t (v := .sl .fz (rv_12.map Pr.c)) (t_extract rfl rfl rfl) rfl rfl (VO.t (v := .i rv_13) (t_extract rfl rfl rfl) rfl rfl (VO.a (v := .sl .fz (rv_12.map Pr.c)) rfl rfl (VO.a (v := .i rv_13) rfl rfl (VO.n (VW.k6 1 3 4 5 6 7 rfl (VW.seq (VW.q ?_)))))))))
    refine VO.m rfl rfl (VO.m rfl rfl (VO.t (v := .bool (rv_10 != rv_13)) (t_cmp rfl rfl rfl rfl rfl) rfl rfl (VO.m rfl rfl ?_)))
    refine VO.caseB (d := 34) (b := (rv_10 != rv_13)) rfl (fun hc_15 => ?_) (fun hc_15 => ?_)
    · replace h := iteT h hc_15
      refine VO.s rfl (VO.s rfl (VO.s rfl (VO.s rfl (VO.t (v := .bool true) (t_pick (b := true) rfl rfl (fun _ => (fun _ _ => rfl)) (fun h => by cases h)) rfl rfl (VO.n (VW.k3 1 3 39 rfl (VW.condT rfl (VW.q (VO.a (v := .bool false) rfl (fun _ _ => rfl) ?_)))))))))
      refine VO.n (VW.ret (thenQ_ret ?_))
      cases oi h
      exact ret0 rfl rfl ⟨rfl, rfl⟩
    · replace h := iteF h hc_15
      refine VO.gt (v := .sl .fz (rv_9.map Pr.c)) (t_move rfl rfl) rfl rfl rfl rfl (VO.gt (v := .sl .fz (rv_12.map Pr.c)) (t_move rfl rfl) rfl rfl rfl rfl ?_)
      obtain ⟨rv_16, hx_17, h⟩ := obind h
      refine VO.gk (w_keep rfl fn9 rfl ⟨_, _, rfl, rfl, _, _, rfl, rfl, rfl⟩ (ref01_Pairs_ok _ _ _ hx_17)) rfl rfl rfl rfl (VO.gt (v := .bool (!rv_16)) (t_not rfl rfl rfl) rfl rfl rfl rfl (VO.t (v := .bool (!rv_16)) (t_pick (b := false) rfl rfl (fun h => by cases h) (fun _ => rfl)) rfl rfl (VO.n (VW.k3 1 3 39 rfl ?_))))
      refine VW.cond (b := (!rv_16)) rfl (fun hc_18 => ?_) (fun hc_18 => ?_)
      · replace h := iteT h hc_18
        refine VW.q (VO.a (v := .bool false) rfl (fun _ _ => rfl) (VO.n (VW.ret (thenQ_ret ?_))))
        cases oi h
        exact ret0 rfl rfl ⟨rfl, rfl⟩
      · replace h := iteF h hc_18
        refine VW.skip (thenQ_normal (VW.k2 1 3 rfl (VW.q (VO.r (v := .agg (Node.l rv_6)) (r_load_q (i := 0) rfl sz29 rfl rfl rfl) rfl rfl ?_))))
        obtain ⟨⟨rv_19, rv_20⟩, hx_21, h⟩ := obind h
        try dsimp only at h
        refine VO.k (w_keep rfl fn10 rfl ⟨_, _, rfl, rfl, rfl⟩ (set_Extends_ok _ _ hx_21)) rfl rfl (VO.m rfl rfl (VO.t (v := .bool rv_19) (t_extract rfl rfl rfl) rfl rfl (VO.t (v := .i rv_20) (t_extract rfl rfl rfl) rfl rfl (VO.a (v := .bool rv_19) rfl rfl (VO.a (v := .i rv_20) rfl rfl (VO.n (VW.k4 1 3 8 5 rfl (VW.q (VO.r (v := .agg (Node.l a0)) (r_load_q (i := 1) rfl sz24 rfl rfl rfl) rfl rfl ?_)))))))))
        obtain ⟨⟨rv_22, rv_23⟩, hx_24, h⟩ := obind h
        try dsimp only at h
        refine VO.k (w_keep rfl fn11 rfl ⟨_, _, rfl, rfl, rfl⟩ (ref03_Extends_ok _ _ hx_24)) rfl rfl (VO.m rfl rfl (VO.t (v := .bool rv_22) (t_extract rfl rfl rfl) rfl rfl (VO.t (v := .i rv_23) (t_extract rfl rfl rfl) rfl rfl (VO.a (v := .bool rv_22) rfl rfl (VO.a (v := .i rv_23) rfl rfl (VO.n (VW.k6 1 3 8 5 9 7 rfl (VW.seq (VW.q ?_)))))))))
        refine VO.m rfl rfl (VO.m rfl rfl (VO.t (v := .bool (rv_19 != rv_22)) (t_bne rfl Tryd.underlying4 rfl rfl rfl) rfl rfl (VO.m rfl rfl ?_)))
        refine VO.caseB (d := 53) (b := (rv_19 != rv_22)) rfl (fun hc_25 => ?_) (fun hc_25 => ?_)
        · replace h := iteT h hc_25
          refine VO.s rfl (VO.s rfl (VO.s rfl (VO.t (v := .bool true) (t_pick (b := true) rfl rfl (fun _ => (fun _ _ => rfl)) (fun h => by cases h)) rfl rfl (VO.n (VW.k3 1 3 57 rfl (VW.condT rfl (VW.q (VO.a (v := .bool false) rfl (fun _ _ => rfl) (VO.n ?_)))))))))
          refine VW.ret (thenQ_ret ?_)
          cases oi h
          exact ret0 rfl rfl ⟨rfl, rfl⟩
        · replace h := iteF h hc_25
          refine VO.gt (v := .i rv_20) (t_move rfl rfl) rfl rfl rfl rfl (VO.gt (v := .i rv_23) (t_move rfl rfl) rfl rfl rfl rfl (VO.gt (v := .bool (rv_20 != rv_23)) (t_cmp rfl rfl rfl rfl rfl) rfl rfl rfl rfl (VO.t (v := .bool (rv_20 != rv_23)) (t_pick (b := false) rfl rfl (fun h => by cases h) (fun _ => rfl)) rfl rfl (VO.n (VW.k3 1 3 57 rfl ?_)))))
          refine VW.cond (b := (rv_20 != rv_23)) rfl (fun hc_26 => ?_) (fun hc_26 => ?_)
          · replace h := iteT h hc_26
            refine VW.q (VO.a (v := .bool false) rfl (fun _ _ => rfl) (VO.n (VW.ret (thenQ_ret ?_))))
            cases oi h
            exact ret0 rfl rfl ⟨rfl, rfl⟩
          · replace h := iteF h hc_26
            refine VW.skip (thenQ_normal (VW.k2 1 3 rfl (VW.q (VO.r (v := .agg (Node.l rv_6)) (r_load_q (i := 0) rfl sz29 rfl rfl rfl) rfl rfl ?_))))
            obtain ⟨⟨rv_27, rv_28⟩, hx_29, h⟩ := obind h
            try dsimp only at h
            refine VO.k (w_keep rfl fn12 rfl ⟨_, _, rfl, rfl, rfl⟩ (set_Root_ok _ _ hx_29)) rfl rfl (VO.m rfl rfl (VO.t (v := .agg (Node.l rv_27)) (t_extract rfl rfl rfl) rfl rfl (VO.t (v := .i rv_28) (t_extract rfl rfl rfl) rfl rfl (VO.w (fun v H' => ∃ ob_30, .ptr ob_30 0 = v ∧ H' = hq ([[(ob_30, .cells [.i 0, .i 0, .i 0, .sl .nl []])], [(ob_8, .cells (Node.l rv_6))], [(ob_0, .cells (Node.l a0))]]) []) (w_alloc_q rfl zt29 (fun ob => ⟨ob, rfl, rfl⟩)) rfl rfl ?_))))
            rintro _ _ ⟨ob_30, rfl, rfl⟩
            refine VO.w (fun v H' => .any = v ∧ H' = hq ([[(ob_30, .cells (Node.l rv_27))], [(ob_8, .cells (Node.l rv_6))], [(ob_0, .cells (Node.l a0))]]) []) (w_store_q (i := 0) rfl sz29 rfl rfl rfl rfl rfl (nle rfl) ⟨rfl, rfl⟩) rfl rfl ?_
            rintro _ _ ⟨rfl, rfl⟩
            refine VO.a (v := .i rv_28) rfl rfl (VO.n (VW.k4 1 3 10 5 rfl (VW.q (VO.r (v := .agg (Node.l a0)) (r_load_q (i := 2) rfl sz24 rfl rfl rfl) rfl rfl ?_))))
            obtain ⟨⟨rv_31, rv_32⟩, hx_33, h⟩ := obind h
            try dsimp only at h
            refine VO.k (w_keep rfl fn13 rfl ⟨_, _, rfl, rfl, rfl⟩ (ref03_Root_ok _ _ hx_33)) rfl rfl (VO.m rfl rfl (VO.t (v := .agg (Node.l rv_31)) (t_extract rfl rfl rfl) rfl rfl (VO.t (v := .i rv_32) (t_extract rfl rfl rfl) rfl rfl (VO.w (fun v H' => ∃ ob_34, .ptr ob_34 0 = v ∧ H' = hq ([[(ob_34, .cells [.i 0, .i 0, .i 0, .sl .nl []])], [(ob_30, .cells (Node.l rv_27))], [(ob_8, .cells (Node.l rv_6))], [(ob_0, .cells (Node.l a0))]]) []) (w_alloc_q rfl zt24 (fun ob => ⟨ob, rfl, rfl⟩)) rfl rfl ?_))))
            rintro _ _ ⟨ob_34, rfl, rfl⟩
            refine VO.w (fun v H' => .any = v ∧ H' = hq ([[(ob_34, .cells (Node.l rv_31))], [(ob_30, .cells (Node.l rv_27))], [(ob_8, .cells (Node.l rv_6))], [(ob_0, .cells (Node.l a0))]]) []) (w_store_q (i := 0) rfl sz24 rfl rfl rfl rfl rfl (nle rfl) ⟨rfl, rfl⟩) rfl rfl ?_
            rintro _ _ ⟨rfl, rfl⟩
            refine VO.a (v := .i rv_32) rfl rfl (VO.n (VW.k6 1 3 10 5 11 7 rfl (VW.seq (VW.seq (VW.draw 10 mix rfl (VA.t (i := 0) rfl (t_move rfl rfl) (.inl rfl) (by kernel_rfl) (VA.t (i := 1) rfl (t_move rfl rfl) (.inl rfl) (by kernel_rfl) (VA.t (i := 2) (v := .bool (rv_28 != rv_32)) rfl (t_cmp rfl rfl rfl rfl rfl) (.inl rfl) (by kernel_rfl) (VA.t (i := 3) rfl (t_move rfl rfl) (.inl rfl) (by kernel_rfl) ?_)))))))))
            refine VA.caseB (d := 71) (b := (rv_28 != rv_32)) rfl (fun hc_35 => ?_) (fun hc_35 => ?_)
            · replace h := iteT h hc_35
              refine VA.s 4 rfl (by kernel_rfl) (VA.s 5 rfl (by kernel_rfl) (VA.s 6 rfl (by kernel_rfl) (VA.s 7 rfl (by kernel_rfl) (VA.s 8 rfl (by kernel_rfl) (VA.t (i := 9) (v := .bool true) rfl (t_pick (b := true) rfl rfl (fun _ => (fun _ _ => rfl)) (fun h => by cases h)) (.inl rfl) (by kernel_rfl) (VA.done (by kernel_rfl) (thenQ_normal (VW.k3 1 3 77 rfl (VW.hsub (A := hq ([[(ob_8, .cells (Node.l rv_6))], [(ob_0, .cells (Node.l a0))]]) []) (hq_sub (.cons _ (.cons _ (.cons_cons _ (.cons_cons _ .slnil)))) .slnil) ?_)))))))))
              refine VW.condT rfl (VW.q (VO.a (v := .bool false) rfl (fun _ _ => rfl) (VO.n (VW.ret (thenQ_ret ?_)))))
              cases oi h
              exact ret0 rfl rfl ⟨rfl, rfl⟩
            · replace h := iteF h hc_35
              refine VA.keeps (VK.r (v := .agg (Node.l rv_27)) 4 72 [] rfl rfl (r_load_q (i := 1) rfl sz29 rfl rfl rfl) (.inr ⟨_, _, _, rfl, rfl, rfl⟩) ?_)
              obtain ⟨rv_36, hx_37, h⟩ := obind h
              refine VK.w 5 73 [4] rfl rfl (w_keep rfl fn15 rfl ⟨_, _, rfl, rfl, .i 400, _, rfl, (fun _ _ => rfl), rfl⟩ (law03_back_ok _ _ _ hx_37)) (.inr ⟨_, _, _, rfl, rfl, rfl⟩) (VK.r (v := .agg (Node.l rv_31)) 6 74 [] rfl rfl (r_load_q (i := 0) rfl sz24 rfl rfl rfl) (.inr ⟨_, _, _, rfl, rfl, rfl⟩) ?_)
              obtain ⟨rv_38, hx_39, h⟩ := obind h
              refine VK.w 7 75 [5, 6] rfl rfl (w_keep rfl fn14 rfl ⟨_, _, rfl, rfl, _, _, rfl, rfl, rfl⟩ (ref03_Same_ok _ _ _ hx_39)) (.inr ⟨_, _, _, rfl, rfl, rfl⟩) (VK.t (v := .bool (!rv_38)) 8 76 [7] rfl rfl (t_not rfl rfl rfl) (.inr ⟨_, _, _, rfl, rfl, rfl⟩) (VK.t (v := .bool (!rv_38)) 9 77 [8] rfl rfl (t_pick (b := false) rfl rfl (fun h => by cases h) (fun _ => rfl)) (.inl rfl) (VK.done 0 rfl (by kernel_rfl) rfl (VA.done (by kernel_rfl) (thenQ_normal (VW.k3 1 3 77 rfl (VW.hsub (A := hq ([[(ob_8, .cells (Node.l rv_6))], [(ob_0, .cells (Node.l a0))]]) []) (hq_sub (.cons _ (.cons _ (.cons_cons _ (.cons_cons _ .slnil)))) .slnil) ?_)))))))
              refine VW.cond (b := (!rv_38)) rfl (fun hc_40 => ?_) (fun hc_40 => ?_)
              · replace h := iteT h hc_40
                refine VW.q (VO.a (v := .bool false) rfl (fun _ _ => rfl) (VO.n (VW.ret (thenQ_ret ?_))))
                cases oi h
                exact ret0 rfl rfl ⟨rfl, rfl⟩
              · replace h := iteF h hc_40
                refine VW.skip (thenQ_normal (VW.k2 1 3 rfl (VW.q (VO.r (v := .agg (Node.l rv_6)) (r_load_q (i := 0) rfl sz29 rfl rfl rfl) rfl rfl ?_))))
                obtain ⟨⟨rv_41, rv_42⟩, hx_43, h⟩ := obind h
                try dsimp only at h
                refine VO.k (w_keep rfl fn16 rfl ⟨_, _, rfl, rfl, rfl⟩ (set_Text_ok _ _ hx_43)) rfl rfl (VO.m rfl rfl (VO.t (v := .str rv_41) (t_extract rfl rfl rfl) rfl rfl (VO.t (v := .i rv_42) (t_extract rfl rfl rfl) rfl rfl (VO.a (v := .str rv_41) rfl rfl (VO.a (v := .i rv_42) rfl rfl (VO.n (VW.k4 1 3 12 5 rfl (VW.q (VO.r (v := .agg (Node.l a0)) (r_load_q (i := 1) rfl sz24 rfl rfl rfl) rfl rfl ?_)))))))))
                obtain ⟨⟨rv_44, rv_45⟩, hx_46, h⟩ := obind h
                try dsimp only at h
                refine VO.k (w_keep rfl fn17 rfl ⟨_, _, rfl, rfl, rfl⟩ (ref03_Text_ok _ _ hx_46)) rfl rfl (VO.m rfl rfl (VO.t (v := .str rv_44) (t_extract rfl rfl rfl) rfl rfl (VO.t (v := .i rv_45) (t_extract rfl rfl rfl) rfl rfl (VO.a (v := .str rv_44) rfl rfl (VO.a (v := .i rv_45) rfl rfl (VO.n (VW.k6 1 3 12 5 13 7 rfl (VW.seq (VW.q ?_)))))))))
                refine VO.m rfl rfl (VO.m rfl rfl (VO.t (v := .bool (scmp .neq rv_41 rv_44)) (t_scmp rfl rfl rfl rfl rfl) rfl rfl (VO.m rfl rfl ?_)))
                refine VO.caseB (d := 91) (b := (scmp .neq rv_41 rv_44)) rfl (fun hc_47 => ?_) (fun hc_47 => ?_)
                · replace h := iteT h hc_47
                  refine VO.s rfl (VO.s rfl (VO.s rfl (VO.t (v := .bool true) (t_pick (b := true) rfl rfl (fun _ => (fun _ _ => rfl)) (fun h => by cases h)) rfl rfl (VO.n (VW.k3 1 3 95 rfl (VW.condT rfl (VW.q (VO.a (v := .bool false) rfl (fun _ _ => rfl) (VO.n ?_)))))))))
                  refine VW.ret (thenQ_ret ?_)
                  cases oi h
                  exact ret0 rfl rfl ⟨rfl, rfl⟩
                · replace h := iteF h hc_47
                  refine VO.gt (v := .i rv_42) (t_move rfl rfl) rfl rfl rfl rfl (VO.gt (v := .i rv_45) (t_move rfl rfl) rfl rfl rfl rfl (VO.gt (v := .bool (rv_42 != rv_45)) (t_cmp rfl rfl rfl rfl rfl) rfl rfl rfl rfl (VO.t (v := .bool (rv_42 != rv_45)) (t_pick (b := false) rfl rfl (fun h => by cases h) (fun _ => rfl)) rfl rfl (VO.n (VW.k3 1 3 95 rfl ?_)))))
                  refine VW.cond (b := (rv_42 != rv_45)) rfl (fun hc_48 => ?_) (fun hc_48 => ?_)
                  · replace h := iteT h hc_48
                    refine VW.q (VO.a (v := .bool false) rfl (fun _ _ => rfl) (VO.n (VW.ret (thenQ_ret ?_))))
                    cases oi h
                    exact ret0 rfl rfl ⟨rfl, rfl⟩
                  · replace h := iteF h hc_48
                    refine VW.skip (thenQ_normal (VW.k2 1 3 rfl (VW.q (VO.r (v := .agg (Node.l rv_6)) (r_load_q (i := 0) rfl sz29 rfl rfl rfl) rfl rfl ?_))))
                    obtain ⟨⟨rv_49, rv_50⟩, hx_51, h⟩ := obind h
                    try dsimp only at h
                    refine VO.k (w_keep rfl fn18 rfl ⟨_, _, rfl, rfl, rfl⟩ (set_Effective_ok _ _ hx_51)) rfl rfl (VO.m rfl rfl (VO.t (v := .agg (GoType.c rv_49)) (t_extract rfl rfl rfl) rfl rfl (VO.t (v := .i rv_50) (t_extract rfl rfl rfl) rfl rfl (VO.w (fun v H' => ∃ ob_52, .ptr ob_52 0 = v ∧ H' = hq ([[(ob_52, .cells [.i 0, .str ByteArray.empty, .i 0, .i 0, .bool false, .bool false, .sl .nl [], .sl .nl []])], [(ob_8, .cells (Node.l rv_6))], [(ob_0, .cells (Node.l a0))]]) []) (w_alloc_q rfl zt52 (fun ob => ⟨ob, rfl, rfl⟩)) rfl rfl ?_))))
                    rintro _ _ ⟨ob_52, rfl, rfl⟩
                    refine VO.w (fun v H' => .any = v ∧ H' = hq ([[(ob_52, .cells (GoType.c rv_49))], [(ob_8, .cells (Node.l rv_6))], [(ob_0, .cells (Node.l a0))]]) []) (w_store_q (i := 0) rfl sz52 rfl rfl rfl rfl rfl (nle rfl) ⟨rfl, rfl⟩) rfl rfl ?_
                    rintro _ _ ⟨rfl, rfl⟩
                    refine VO.a (v := .i rv_50) rfl rfl (VO.n (VW.k4 1 3 14 5 rfl (VW.q (VO.r (v := .agg (Node.l a0)) (r_load_q (i := 2) rfl sz24 rfl rfl rfl) rfl rfl ?_))))
                    obtain ⟨⟨rv_53, rv_54⟩, hx_55, h⟩ := obind h
                    try dsimp only at h
                    refine VO.k (w_keep rfl fn19 rfl ⟨_, _, rfl, rfl, rfl⟩ (ref03_Effective_ok _ _ hx_55)) rfl rfl (VO.m rfl rfl (VO.t (v := .agg (GoType.c rv_53)) (t_extract rfl rfl rfl) rfl rfl (VO.t (v := .i rv_54) (t_extract rfl rfl rfl) rfl rfl (VO.w (fun v H' => ∃ ob_56, .ptr ob_56 0 = v ∧ H' = hq ([[(ob_56, .cells [.i 0, .str ByteArray.empty, .i 0, .i 0, .bool false, .bool false, .sl .nl [], .sl .nl []])], [(ob_52, .cells (GoType.c rv_49))], [(ob_8, .cells (Node.l rv_6))], [(ob_0, .cells (Node.l a0))]]) []) (w_alloc_q rfl zt52 (fun ob => ⟨ob, rfl, rfl⟩)) rfl rfl ?_))))
                    rintro _ _ ⟨ob_56, rfl, rfl⟩
                    refine VO.w (fun v H' => .any = v ∧ H' = hq ([[(ob_56, .cells (GoType.c rv_53))], [(ob_52, .cells (GoType.c rv_49))], [(ob_8, .cells (Node.l rv_6))], [(ob_0, .cells (Node.l a0))]]) []) (w_store_q (i := 0) rfl sz52 rfl rfl rfl rfl rfl (nle rfl) ⟨rfl, rfl⟩) rfl rfl ?_
                    rintro _ _ ⟨rfl, rfl⟩
                    refine VO.a (v := .i rv_54) rfl rfl (VO.n (VW.k6 1 3 14 5 15 7 rfl (VW.seq (VW.q (VO.m rfl rfl (VO.m rfl rfl (VO.t (v := .bool (rv_50 != rv_54)) (t_cmp rfl rfl rfl rfl rfl) rfl rfl (VO.m rfl rfl ?_))))))))
                    refine VO.caseB (d := 109) (b := (rv_50 != rv_54)) rfl (fun hc_57 => ?_) (fun hc_57 => ?_)
                    · replace h := iteT h hc_57
                      refine VO.s rfl (VO.s rfl (VO.s rfl (VO.s rfl (VO.s rfl (VO.t (v := .bool true) (t_pick (b := true) rfl rfl (fun _ => (fun _ _ => rfl)) (fun h => by cases h)) rfl rfl (VO.m rfl rfl (VO.s rfl (VO.s rfl (VO.s rfl ?_)))))))))
                      refine VO.s rfl (VO.s rfl (VO.t (v := .bool true) (t_pick (b := true) rfl rfl (fun _ => (fun _ _ => rfl)) (fun h => by cases h)) rfl rfl (VO.m rfl rfl (VO.s rfl (VO.s rfl (VO.s rfl (VO.s rfl (VO.s rfl (VO.t (v := .bool true) (t_pick (b := true) rfl rfl (fun _ => (fun _ _ => rfl)) (fun h => by cases h)) rfl rfl ?_)))))))))
                      refine VO.m rfl rfl (VO.s rfl (VO.s rfl (VO.s rfl (VO.s rfl (VO.s rfl (VO.t (v := .bool true) (t_pick (b := true) rfl rfl (fun _ => (fun _ _ => rfl)) (fun h => by cases h)) rfl rfl (VO.m rfl rfl (VO.s rfl (VO.s rfl ?_)))))))))
                      refine VO.s rfl (VO.s rfl (VO.s rfl (VO.t (v := .bool true) (t_pick (b := true) rfl rfl (fun _ => (fun _ _ => rfl)) (fun h => by cases h)) rfl rfl (VO.m rfl rfl (VO.s rfl (VO.s rfl (VO.s rfl (VO.t (v := .bool true) (t_pick (b := true) rfl rfl (fun _ => (fun _ _ => rfl)) (fun h => by cases h)) rfl rfl (VO.m rfl rfl ?_)))))))))
                      refine VO.s rfl (VO.s rfl (VO.s rfl (VO.s rfl (VO.t (v := .bool true) (t_pick (b := true) rfl rfl (fun _ => (fun _ _ => rfl)) (fun h => by cases h)) rfl rfl (VO.m rfl rfl (VO.s rfl (VO.s rfl (VO.s rfl (VO.s rfl ?_)))))))))
                      refine VO.t (v := .bool true) (t_pick (b := true) rfl rfl (fun _ => (fun _ _ => rfl)) (fun h => by cases h)) rfl rfl (VO.n (VW.k3 1 3 160 rfl (VW.hsub (A := hq ([[(ob_8, .cells (Node.l rv_6))], [(ob_0, .cells (Node.l a0))]]) []) (hq_sub (.cons _ (.cons _ (.cons_cons _ (.cons_cons _ .slnil)))) .slnil) (VW.condT rfl (VW.q (VO.a (v := .bool false) rfl (fun _ _ => rfl) (VO.n (VW.ret (thenQ_ret ?_)))))))))
                      cases oi h
                      exact ret0 rfl rfl ⟨rfl, rfl⟩
                    · replace h := iteF h hc_57
                      refine VO.gt (v := .ptr ob_52 0) (t_fieldAddr_ptr rfl fi52_0 rfl rfl) rfl rfl rfl rfl (VO.gr (v := .i rv_49.Kind) (r_load_q (i := 1) rfl sz3 rfl rfl rfl) rfl rfl rfl rfl (VO.gt (v := .ptr ob_56 0) (t_fieldAddr_ptr rfl fi52_0 rfl rfl) rfl rfl rfl rfl (VO.gr (v := .i rv_53.Kind) (r_load_q (i := 0) rfl sz3 rfl rfl rfl) rfl rfl rfl rfl (VO.gt (v := .bool (rv_49.Kind != rv_53.Kind)) (t_cmp rfl rfl rfl rfl rfl) rfl rfl rfl rfl (VO.t (v := .bool (rv_49.Kind != rv_53.Kind)) (t_pick (b := false) rfl rfl (fun h => by cases h) (fun _ => rfl)) rfl rfl (VO.m rfl rfl ?_))))))
                      refine VO.caseB (d := 116) (b := (rv_49.Kind != rv_53.Kind)) rfl (fun hc_58 => ?_) (fun hc_58 => ?_)
                      · replace h := iteT h hc_58
                        refine VO.s rfl (VO.s rfl (VO.s rfl (VO.s rfl (VO.s rfl (VO.t (v := .bool true) (t_pick (b := true) rfl rfl (fun _ => (fun _ _ => rfl)) (fun h => by cases h)) rfl rfl (VO.m rfl rfl (VO.s rfl (VO.s rfl (VO.s rfl ?_)))))))))
                        refine VO.s rfl (VO.s rfl (VO.t (v := .bool true) (t_pick (b := true) rfl rfl (fun _ => (fun _ _ => rfl)) (fun h => by cases h)) rfl rfl (VO.m rfl rfl (VO.s rfl (VO.s rfl (VO.s rfl (VO.s rfl (VO.s rfl (VO.t (v := .bool true) (t_pick (b := true) rfl rfl (fun _ => (fun _ _ => rfl)) (fun h => by cases h)) rfl rfl ?_)))))))))
                        refine VO.m rfl rfl (VO.s rfl (VO.s rfl (VO.s rfl (VO.s rfl (VO.s rfl (VO.t (v := .bool true) (t_pick (b := true) rfl rfl (fun _ => (fun _ _ => rfl)) (fun h => by cases h)) rfl rfl (VO.m rfl rfl (VO.s rfl (VO.s rfl ?_)))))))))
                        refine VO.s rfl (VO.t (v := .bool true) (t_pick (b := true) rfl rfl (fun _ => (fun _ _ => rfl)) (fun h => by cases h)) rfl rfl (VO.m rfl rfl (VO.s rfl (VO.s rfl (VO.s rfl (VO.s rfl (VO.t (v := .bool true) (t_pick (b := true) rfl rfl (fun _ => (fun _ _ => rfl)) (fun h => by cases h)) rfl rfl (VO.m rfl rfl (VO.s rfl ?_)))))))))
                        refine VO.s rfl (VO.s rfl (VO.s rfl (VO.t (v := .bool true) (t_pick (b := true) rfl rfl (fun _ => (fun _ _ => rfl)) (fun h => by cases h)) rfl rfl (VO.n (VW.k3 1 3 160 rfl (VW.hsub (A := hq ([[(ob_8, .cells (Node.l rv_6))], [(ob_0, .cells (Node.l a0))]]) []) (hq_sub (.cons _ (.cons _ (.cons_cons _ (.cons_cons _ .slnil)))) .slnil) (VW.condT rfl (VW.q (VO.a (v := .bool false) rfl (fun _ _ => rfl) ?_)))))))))
                        refine VO.n (VW.ret (thenQ_ret ?_))
                        cases oi h
                        exact ret0 rfl rfl ⟨rfl, rfl⟩
                      · replace h := iteF h hc_58
                        refine VO.gt (v := .ptr ob_52 2) (t_fieldAddr_ptr rfl fi52_2 rfl rfl) rfl rfl rfl rfl (VO.gr (v := .i rv_49.Lo) (r_load_q (i := 1) rfl sz3 rfl rfl rfl) rfl rfl rfl rfl (VO.gt (v := .ptr ob_56 2) (t_fieldAddr_ptr rfl fi52_2 rfl rfl) rfl rfl rfl rfl (VO.gr (v := .i rv_53.Lo) (r_load_q (i := 0) rfl sz3 rfl rfl rfl) rfl rfl rfl rfl (VO.gt (v := .bool (rv_49.Lo != rv_53.Lo)) (t_cmp rfl rfl rfl rfl rfl) rfl rfl rfl rfl (VO.t (v := .bool (rv_49.Lo != rv_53.Lo)) (t_pick (b := false) rfl rfl (fun h => by cases h) (fun _ => rfl)) rfl rfl (VO.m rfl rfl ?_))))))
                        refine VO.caseB (d := 123) (b := (rv_49.Lo != rv_53.Lo)) rfl (fun hc_59 => ?_) (fun hc_59 => ?_)
                        · replace h := iteT h hc_59
                          refine VO.s rfl (VO.s rfl (VO.s rfl (VO.s rfl (VO.s rfl (VO.t (v := .bool true) (t_pick (b := true) rfl rfl (fun _ => (fun _ _ => rfl)) (fun h => by cases h)) rfl rfl (VO.m rfl rfl (VO.s rfl (VO.s rfl (VO.s rfl ?_)))))))))
                          refine VO.s rfl (VO.s rfl (VO.t (v := .bool true) (t_pick (b := true) rfl rfl (fun _ => (fun _ _ => rfl)) (fun h => by cases h)) rfl rfl (VO.m rfl rfl (VO.s rfl (VO.s rfl (VO.s rfl (VO.s rfl (VO.s rfl (VO.t (v := .bool true) (t_pick (b := true) rfl rfl (fun _ => (fun _ _ => rfl)) (fun h => by cases h)) rfl rfl ?_)))))))))
                          refine VO.m rfl rfl (VO.s rfl (VO.s rfl (VO.s rfl (VO.t (v := .bool true) (t_pick (b := true) rfl rfl (fun _ => (fun _ _ => rfl)) (fun h => by cases h)) rfl rfl (VO.m rfl rfl (VO.s rfl (VO.s rfl (VO.s rfl (VO.s rfl ?_)))))))))
                          refine VO.t (v := .bool true) (t_pick (b := true) rfl rfl (fun _ => (fun _ _ => rfl)) (fun h => by cases h)) rfl rfl (VO.m rfl rfl (VO.s rfl (VO.s rfl (VO.s rfl (VO.s rfl (VO.t (v := .bool true) (t_pick (b := true) rfl rfl (fun _ => (fun _ _ => rfl)) (fun h => by cases h)) rfl rfl (VO.n (VW.k3 1 3 160 rfl (VW.hsub (A := hq ([[(ob_8, .cells (Node.l rv_6))], [(ob_0, .cells (Node.l a0))]]) []) (hq_sub (.cons _ (.cons _ (.cons_cons _ (.cons_cons _ .slnil)))) .slnil) ?_)))))))))
                          refine VW.condT rfl (VW.q (VO.a (v := .bool false) rfl (fun _ _ => rfl) (VO.n (VW.ret (thenQ_ret ?_)))))
                          cases oi h
                          exact ret0 rfl rfl ⟨rfl, rfl⟩
                        · replace h := iteF h hc_59
                          refine VO.gt (v := .ptr ob_52 3) (t_fieldAddr_ptr rfl fi52_3 rfl rfl) rfl rfl rfl rfl (VO.gr (v := .i rv_49.Hi) (r_load_q (i := 1) rfl sz3 rfl rfl rfl) rfl rfl rfl rfl (VO.gt (v := .ptr ob_56 3) (t_fieldAddr_ptr rfl fi52_3 rfl rfl) rfl rfl rfl rfl (VO.gr (v := .i rv_53.Hi) (r_load_q (i := 0) rfl sz3 rfl rfl rfl) rfl rfl rfl rfl (VO.gt (v := .bool (rv_49.Hi != rv_53.Hi)) (t_cmp rfl rfl rfl rfl rfl) rfl rfl rfl rfl (VO.t (v := .bool (rv_49.Hi != rv_53.Hi)) (t_pick (b := false) rfl rfl (fun h => by cases h) (fun _ => rfl)) rfl rfl (VO.m rfl rfl ?_))))))
                          refine VO.caseB (d := 130) (b := (rv_49.Hi != rv_53.Hi)) rfl (fun hc_60 => ?_) (fun hc_60 => ?_)
                          · replace h := iteT h hc_60
                            refine VO.s rfl (VO.s rfl (VO.s rfl (VO.s rfl (VO.s rfl (VO.t (v := .bool true) (t_pick (b := true) rfl rfl (fun _ => (fun _ _ => rfl)) (fun h => by cases h)) rfl rfl (VO.m rfl rfl (VO.s rfl (VO.s rfl (VO.s rfl ?_)))))))))
                            refine VO.s rfl (VO.s rfl (VO.t (v := .bool true) (t_pick (b := true) rfl rfl (fun _ => (fun _ _ => rfl)) (fun h => by cases h)) rfl rfl (VO.m rfl rfl (VO.s rfl (VO.s rfl (VO.s rfl (VO.t (v := .bool true) (t_pick (b := true) rfl rfl (fun _ => (fun _ _ => rfl)) (fun h => by cases h)) rfl rfl (VO.m rfl rfl (VO.s rfl ?_)))))))))
                            refine VO.s rfl (VO.s rfl (VO.s rfl (VO.t (v := .bool true) (t_pick (b := true) rfl rfl (fun _ => (fun _ _ => rfl)) (fun h => by cases h)) rfl rfl (VO.m rfl rfl (VO.s rfl (VO.s rfl (VO.s rfl (VO.s rfl (VO.t (v := .bool true) (t_pick (b := true) rfl rfl (fun _ => (fun _ _ => rfl)) (fun h => by cases h)) rfl rfl ?_)))))))))
                            refine VO.n (VW.k3 1 3 160 rfl (VW.hsub (A := hq ([[(ob_8, .cells (Node.l rv_6))], [(ob_0, .cells (Node.l a0))]]) []) (hq_sub (.cons _ (.cons _ (.cons_cons _ (.cons_cons _ .slnil)))) .slnil) (VW.condT rfl (VW.q (VO.a (v := .bool false) rfl (fun _ _ => rfl) (VO.n (VW.ret (thenQ_ret ?_))))))))
                            cases oi h
                            exact ret0 rfl rfl ⟨rfl, rfl⟩
                          · replace h := iteF h hc_60
                            refine VO.gt (v := .ptr ob_52 4) (t_fieldAddr_ptr rfl fi52_4 rfl rfl) rfl rfl rfl rfl (VO.gr (v := .bool rv_49.Free) (r_load_q (i := 1) rfl sz4 rfl rfl rfl) rfl rfl rfl rfl (VO.gt (v := .ptr ob_56 4) (t_fieldAddr_ptr rfl fi52_4 rfl rfl) rfl rfl rfl rfl (VO.gr (v := .bool rv_53.Free) (r_load_q (i := 0) rfl sz4 rfl rfl rfl) rfl rfl rfl rfl (VO.gt (v := .bool (rv_49.Free != rv_53.Free)) (t_bne rfl Tryd.underlying4 rfl rfl rfl) rfl rfl rfl rfl (VO.t (v := .bool (rv_49.Free != rv_53.Free)) (t_pick (b := false) rfl rfl (fun h => by cases h) (fun _ => rfl)) rfl rfl (VO.m rfl rfl ?_))))))
                            refine VO.caseB (d := 137) (b := (rv_49.Free != rv_53.Free)) rfl (fun hc_61 => ?_) (fun hc_61 => ?_)
                            · replace h := iteT h hc_61
                              refine VO.s rfl (VO.s rfl (VO.s rfl (VO.s rfl (VO.s rfl (VO.t (v := .bool true) (t_pick (b := true) rfl rfl (fun _ => (fun _ _ => rfl)) (fun h => by cases h)) rfl rfl (VO.m rfl rfl (VO.s rfl (VO.s rfl (VO.s rfl ?_)))))))))
                              refine VO.t (v := .bool true) (t_pick (b := true) rfl rfl (fun _ => (fun _ _ => rfl)) (fun h => by cases h)) rfl rfl (VO.m rfl rfl (VO.s rfl (VO.s rfl (VO.s rfl (VO.s rfl (VO.t (v := .bool true) (t_pick (b := true) rfl rfl (fun _ => (fun _ _ => rfl)) (fun h => by cases h)) rfl rfl (VO.m rfl rfl (VO.s rfl (VO.s rfl ?_)))))))))
                              refine VO.s rfl (VO.s rfl (VO.t (v := .bool true) (t_pick (b := true) rfl rfl (fun _ => (fun _ _ => rfl)) (fun h => by cases h)) rfl rfl (VO.n (VW.k3 1 3 160 rfl (VW.hsub (A := hq ([[(ob_8, .cells (Node.l rv_6))], [(ob_0, .cells (Node.l a0))]]) []) (hq_sub (.cons _ (.cons _ (.cons_cons _ (.cons_cons _ .slnil)))) .slnil) (VW.condT rfl (VW.q (VO.a (v := .bool false) rfl (fun _ _ => rfl) (VO.n ?_)))))))))
                              refine VW.ret (thenQ_ret ?_)
                              cases oi h
                              exact ret0 rfl rfl ⟨rfl, rfl⟩
                            · replace h := iteF h hc_61
                              refine VO.gt (v := .ptr ob_52 5) (t_fieldAddr_ptr rfl fi52_5 rfl rfl) rfl rfl rfl rfl (VO.gr (v := .bool rv_49.Ext) (r_load_q (i := 1) rfl sz4 rfl rfl rfl) rfl rfl rfl rfl (VO.gt (v := .ptr ob_56 5) (t_fieldAddr_ptr rfl fi52_5 rfl rfl) rfl rfl rfl rfl (VO.gr (v := .bool rv_53.Ext) (r_load_q (i := 0) rfl sz4 rfl rfl rfl) rfl rfl rfl rfl (VO.gt (v := .bool (rv_49.Ext != rv_53.Ext)) (t_bne rfl Tryd.underlying4 rfl rfl rfl) rfl rfl rfl rfl (VO.t (v := .bool (rv_49.Ext != rv_53.Ext)) (t_pick (b := false) rfl rfl (fun h => by cases h) (fun _ => rfl)) rfl rfl (VO.m rfl rfl ?_))))))
                              refine VO.caseB (d := 144) (b := (rv_49.Ext != rv_53.Ext)) rfl (fun hc_62 => ?_) (fun hc_62 => ?_)
                              · replace h := iteT h hc_62
                                refine VO.s rfl (VO.s rfl (VO.s rfl (VO.t (v := .bool true) (t_pick (b := true) rfl rfl (fun _ => (fun _ _ => rfl)) (fun h => by cases h)) rfl rfl (VO.m rfl rfl (VO.s rfl (VO.s rfl (VO.s rfl (VO.s rfl (VO.t (v := .bool true) (t_pick (b := true) rfl rfl (fun _ => (fun _ _ => rfl)) (fun h => by cases h)) rfl rfl ?_)))))))))
                                refine VO.m rfl rfl (VO.s rfl (VO.s rfl (VO.s rfl (VO.s rfl (VO.t (v := .bool true) (t_pick (b := true) rfl rfl (fun _ => (fun _ _ => rfl)) (fun h => by cases h)) rfl rfl (VO.n (VW.k3 1 3 160 rfl (VW.hsub (A := hq ([[(ob_8, .cells (Node.l rv_6))], [(ob_0, .cells (Node.l a0))]]) []) (hq_sub (.cons _ (.cons _ (.cons_cons _ (.cons_cons _ .slnil)))) .slnil) (VW.condT rfl ?_)))))))))
                                refine VW.q (VO.a (v := .bool false) rfl (fun _ _ => rfl) (VO.n (VW.ret (thenQ_ret ?_))))
                                cases oi h
                                exact ret0 rfl rfl ⟨rfl, rfl⟩
                              · replace h := iteF h hc_62
                                refine VO.gt (v := .ptr ob_52 1) (t_fieldAddr_ptr rfl fi52_1 rfl rfl) rfl rfl rfl rfl (VO.gr (v := .str rv_49.Name) (r_load_q (i := 1) rfl sz9 rfl rfl rfl) rfl rfl rfl rfl (VO.gt (v := .bool (scmp .neq rv_49.Name k_)) (t_scmp rfl rfl rfl (fun _ _ => rfl) rfl) rfl rfl rfl rfl (VO.t (v := .bool (scmp .neq rv_49.Name k_)) (t_pick (b := false) rfl rfl (fun h => by cases h) (fun _ => rfl)) rfl rfl (VO.m rfl rfl ?_))))
                                refine VO.caseB (d := 149) (b := (scmp .neq rv_49.Name k_)) rfl (fun hc_63 => ?_) (fun hc_63 => ?_)
                                · replace h := iteT h hc_63
                                  refine VO.s rfl (VO.s rfl (VO.s rfl (VO.s rfl (VO.t (v := .bool true) (t_pick (b := true) rfl rfl (fun _ => (fun _ _ => rfl)) (fun h => by cases h)) rfl rfl (VO.m rfl rfl (VO.s rfl (VO.s rfl (VO.s rfl (VO.s rfl ?_)))))))))
                                  refine VO.t (v := .bool true) (t_pick (b := true) rfl rfl (fun _ => (fun _ _ => rfl)) (fun h => by cases h)) rfl rfl (VO.n (VW.k3 1 3 160 rfl (VW.hsub (A := hq ([[(ob_8, .cells (Node.l rv_6))], [(ob_0, .cells (Node.l a0))]]) []) (hq_sub (.cons _ (.cons _ (.cons_cons _ (.cons_cons _ .slnil)))) .slnil) (VW.condT rfl (VW.q (VO.a (v := .bool false) rfl (fun _ _ => rfl) (VO.n (VW.ret (thenQ_ret ?_)))))))))
                                  cases oi h
                                  exact ret0 rfl rfl ⟨rfl, rfl⟩
                                · replace h := iteF h hc_63
                                  refine VO.gt (v := .ptr ob_52 6) (t_fieldAddr_ptr rfl fi52_6 rfl rfl) rfl rfl rfl rfl (VO.gr (v := .sl .fz (rv_49.Items.map cRaw)) (r_load_q (i := 1) rfl sz49 rfl rfl rfl) rfl rfl rfl rfl (VO.gt (v := .i (rv_49.Items.length : Int)) (t_len rfl ⟨_, Tryd.underlying49⟩ rfl (by rw [List.length_map])) rfl rfl rfl rfl (VO.gt (v := .bool (decide ((rv_49.Items.length : Int) > 0))) (t_cmp rfl rfl rfl (fun _ _ => rfl) rfl) rfl rfl rfl rfl (VO.t (v := .bool (decide ((rv_49.Items.length : Int) > 0))) (t_pick (b := false) rfl rfl (fun h => by cases h) (fun _ => rfl)) rfl rfl (VO.m rfl rfl ?_)))))
                                  refine VO.caseB (d := 155) (b := (decide ((rv_49.Items.length : Int) > 0))) rfl (fun hc_64 => ?_) (fun hc_64 => ?_)
                                  · replace h := iteT h hc_64
                                    refine VO.s rfl (VO.s rfl (VO.s rfl (VO.s rfl (VO.t (v := .bool true) (t_pick (b := true) rfl rfl (fun _ => (fun _ _ => rfl)) (fun h => by cases h)) rfl rfl (VO.n (VW.k3 1 3 160 rfl (VW.hsub (A := hq ([[(ob_8, .cells (Node.l rv_6))], [(ob_0, .cells (Node.l a0))]]) []) (hq_sub (.cons _ (.cons _ (.cons_cons _ (.cons_cons _ .slnil)))) .slnil) (VW.condT rfl (VW.q ?_)))))))))
                                    refine VO.a (v := .bool false) rfl (fun _ _ => rfl) (VO.n (VW.ret (thenQ_ret ?_)))
                                    cases oi h
                                    exact ret0 rfl rfl ⟨rfl, rfl⟩
                                  · replace h := iteF h hc_64
                                    refine VO.gt (v := .ptr ob_52 7) (t_fieldAddr_ptr rfl fi52_7 rfl rfl) rfl rfl rfl rfl (VO.gr (v := .sl .fz (rv_49.Kids.map cRaw)) (r_load_q (i := 1) rfl sz50 rfl rfl rfl) rfl rfl rfl rfl (VO.gt (v := .i (rv_49.Kids.length : Int)) (t_len rfl ⟨_, Tryd.underlying50⟩ rfl (by rw [List.length_map])) rfl rfl rfl rfl (VO.gt (v := .bool (decide ((rv_49.Kids.length : Int) > 0))) (t_cmp rfl rfl rfl (fun _ _ => rfl) rfl) rfl rfl rfl rfl (VO.t (v := .bool (decide ((rv_49.Kids.length : Int) > 0))) (t_pick (b := false) rfl rfl (fun h => by cases h) (fun _ => rfl)) rfl rfl (VO.n (VW.k3 1 3 160 rfl (VW.hsub (A := hq ([[(ob_8, .cells (Node.l rv_6))], [(ob_0, .cells (Node.l a0))]]) []) (hq_sub (.cons _ (.cons _ (.cons_cons _ (.cons_cons _ .slnil)))) .slnil) ?_)))))))
                                    refine VW.cond (b := (decide ((rv_49.Kids.length : Int) > 0))) rfl (fun hc_65 => ?_) (fun hc_65 => ?_)
                                    · replace h := iteT h hc_65
                                      refine VW.q (VO.a (v := .bool false) rfl (fun _ _ => rfl) (VO.n (VW.ret (thenQ_ret ?_))))
                                      cases oi h
                                      exact ret0 rfl rfl ⟨rfl, rfl⟩
                                    · replace h := iteF h hc_65
                                      refine VW.skip (thenQ_normal (VW.k2 1 3 rfl (VW.seq (VW.draw 8 mix rfl (VA.keeps (VK.r (v := .agg (Node.l rv_6)) 0 161 [] rfl rfl (r_load_q (i := 0) rfl sz29 rfl rfl rfl) (.inl rfl) ?_))))))
                                      obtain ⟨rv_66, hx_67, h⟩ := obind h
                                      refine VK.w 1 162 [0] rfl rfl (w_keep rfl fn15 rfl ⟨_, _, rfl, rfl, .i 400, _, rfl, (fun _ _ => rfl), rfl⟩ (law03_back_ok _ _ _ hx_67)) (.inl rfl) (VK.r (v := .agg (Node.l a0)) 2 163 [] rfl rfl (r_load_q (i := 1) rfl sz24 rfl rfl rfl) (.inl rfl) ?_)
                                      obtain ⟨rv_68, hx_69, h⟩ := obind h
                                      refine VK.w 3 164 [1, 2] rfl rfl (w_keep rfl fn14 rfl ⟨_, _, rfl, rfl, _, _, rfl, rfl, rfl⟩ (ref03_Same_ok _ _ _ hx_69)) (.inl rfl) (VK.t (v := .bool rv_68) 4 165 [3] rfl rfl (t_move rfl rfl) (.inl rfl) (VK.done 3 rfl (by kernel_rfl) rfl ?_))
                                      refine VA.caseB (d := 165) (b := rv_68) rfl (fun hc_70 => ?_) (fun hc_70 => ?_)
                                      · replace h := iteT h hc_70
                                        obtain ⟨rv_71, hx_72, h⟩ := obind h
                                        refine VA.k (i := 5) rfl (w_keep rfl fn5 rfl rfl (law03_sane_ok  _ hx_72)) (.inr ⟨_, _, _, rfl, rfl, rfl⟩) (by kernel_rfl) rfl (VA.t (i := 6) (v := .bool rv_71) rfl (t_pick (b := true) rfl rfl (fun _ => rfl) (fun h => by cases h)) (.inl rfl) (by kernel_rfl) (VA.t (i := 7) (v := .bool rv_71) rfl (t_assign rfl rfl) (.inl rfl) (by kernel_rfl) (VA.done (by kernel_rfl) (thenQ_normal (VW.ret ?_)))))
                                        cases oi h
                                        exact ret0 rfl rfl ⟨rfl, rfl⟩
                                      · replace h := iteF h hc_70
                                        refine VA.s 5 rfl (by kernel_rfl) (VA.t (i := 6) (v := .bool false) rfl (t_pick (b := false) rfl rfl (fun h => by cases h) (fun _ => (fun _ _ => rfl))) (.inl rfl) (by kernel_rfl) (VA.t (i := 7) (v := .bool false) rfl (t_assign rfl rfl) (.inl rfl) (by kernel_rfl) (VA.done (by kernel_rfl) (thenQ_normal (VW.ret ?_)))))
                                        cases oi h
                                        exact ret0 rfl rfl ⟨rfl, rfl⟩

end Go.AV
