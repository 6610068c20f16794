/- The walks: each printed theorem says what a function of the program does. -/
import Derived.Test.YtgclbdndnbgnoaaWk0
namespace Go.AV
open Go.Proofs
set_option maxRecDepth 100000
set_option linter.all false

theorem slices_partialInsertionSortCmpFunc_2int.l0_ok (a3 : Pr → Pr → Option Int) (a1 : Int) (a2 : Int) (a3_f : Nat) (a3_a a3_c : List VV) (a3_g : Seg) (a3_k : FnOK Try.prog a3_f) (a3_h : ∀ (y0 : Pr) (y1 : Pr) (z : Int), a3 y0 y1 = some z → VCalls Try.prog a3_f (a3_a ++ [.agg [.int .i64 y0.x0, .int .i64 y0.x1], .agg [.int .i64 y1.x0, .int .i64 y1.x1]] ++ a3_c) (hq [a3_g] []) (fun v H => .int .i64 z = v ∧ H = hq [a3_g] [])) {Q : Exit → Env → HH → Prop} :
    ∀ (bu_1829 : List Pr) (i_1831 : Int) (j_1832 : Int) (o : (List Pr) ⊕ (List Pr × Bool)), PL.slices_partialInsertionSortCmpFunc_2int.l0 a3 a1 a2 bu_1829 i_1831 j_1832 = some o →
    ∀ (vp0_1830 : VV) (bp0_1830 : Seg) (hbp0_1830 : Buf 2 (bu_1829.map Pr.c) vp0_1830 bp0_1830) (hx0 : ∀ (bu_2040 : List Pr) (bp0_2041 : Seg), Sum.inl bu_2040 = o → Buf 2 (bu_2040.map Pr.c) vp0_1830 bp0_2041 → Q (.exit 0) ⟨[], []⟩ (hq ([bp0_2041, a3_g]) [])) (hx1 : ∀ (bu_2042 : List Pr) (x_2044 : Bool) (bp0_2043 : Seg), Sum.inr (bu_2042, x_2044) = o → Buf 2 (bu_2042.map Pr.c) vp0_1830 bp0_2043 → Q .ret ⟨[(8, .bool x_2044)], []⟩ (hq ([bp0_2043, a3_g]) [])), VW Try.prog 141 (codeAt [1, 1, 0, 1, 0, 0] (bodyOf Try.f66)) (thenQ (VL Try.prog 141 (codeAt [1, 1, 0, 1, 0, 0] (bodyOf Try.f66)) Q) Q) ⟨[(0, vp0_1830), (1, .int .i64 a1), (2, .int .i64 a2), (3, .func (.func a3_f) a3_a a3_c), (9, .int .i64 i_1831), (10, .int .i64 j_1832)], []⟩ (hq ([bp0_1830, a3_g]) []) := by
  refine PL.slices_partialInsertionSortCmpFunc_2int.l0.partial_correctness a3 a1 a2 (motive := fun bu_1829 i_1831 j_1832 o => ∀ (vp0_1830 : VV) (bp0_1830 : Seg) (hbp0_1830 : Buf 2 (bu_1829.map Pr.c) vp0_1830 bp0_1830) (hx0 : ∀ (bu_2040 : List Pr) (bp0_2041 : Seg), Sum.inl bu_2040 = o → Buf 2 (bu_2040.map Pr.c) vp0_1830 bp0_2041 → Q (.exit 0) ⟨[], []⟩ (hq ([bp0_2041, a3_g]) [])) (hx1 : ∀ (bu_2042 : List Pr) (x_2044 : Bool) (bp0_2043 : Seg), Sum.inr (bu_2042, x_2044) = o → Buf 2 (bu_2042.map Pr.c) vp0_1830 bp0_2043 → Q .ret ⟨[(8, .bool x_2044)], []⟩ (hq ([bp0_2043, a3_g]) [])), VW Try.prog 141 (codeAt [1, 1, 0, 1, 0, 0] (bodyOf Try.f66)) (thenQ (VL Try.prog 141 (codeAt [1, 1, 0, 1, 0, 0] (bodyOf Try.f66)) Q) Q) ⟨[(0, vp0_1830), (1, .int .i64 a1), (2, .int .i64 a2), (3, .func (.func a3_f) a3_a a3_c), (9, .int .i64 i_1831), (10, .int .i64 j_1832)], []⟩ (hq ([bp0_1830, a3_g]) [])) ?_
  intro _ ih bu_1829 i_1831 j_1832 o h vp0_1830 bp0_1830 hbp0_1830 hx0 hx1
  refine VW.seq (VW.seq (VW.region (VO.t (t_move rfl rfl) rfl rfl (VO.t (v := .bool (decide (j_1832 < 5))) (t_cmp rfl rfl rfl (fun _ _ => rfl) rfl) rfl rfl (VO.nil (thenQ_normal (VW.subK (.c 0 rfl (.c 1 rfl (.c 2 rfl (.c 3 rfl (.c 9 rfl (.c 10 rfl (.c 16 rfl .n))))))) rfl ?_)))))))
  refine VW.cond (b := (decide (j_1832 < 5))) rfl (fun hc_2045 => ?_) (fun hc_2045 => ?_)
  · replace h := iteT h hc_2045
    refine VW.skip (thenQ_normal (VW.subK (.c 0 rfl (.c 1 rfl (.c 2 rfl (.c 3 rfl (.c 9 rfl (.c 10 rfl .n)))))) rfl (VW.seq (VW.block (VW.seq (VW.block (VW.subK (.c 0 rfl (.c 1 rfl (.c 2 rfl (.c 3 rfl (.c 9 rfl (.c 10 rfl .n)))))) rfl ?_)))))))
    obtain ⟨o_2100, hx_2101, h⟩ := obind h
    refine VW.loopL (slices_partialInsertionSortCmpFunc_2int.l1_ok a3 a1 a2 bu_1829 j_1832 a3_f a3_a a3_c a3_g a3_k a3_h _ _ hx_2101 vp0_1830 bp0_1830 hbp0_1830 ?_)
    · intro i_2092 bp0_2091 ho_ hbp0_2091
      subst ho_
      try dsimp only at h
      refine blockQ_hit (thenQ_normal (VW.seq (VW.seq (VW.region (VO.t (t_move rfl rfl) rfl rfl (VO.t (t_move rfl rfl) rfl rfl (VO.t (v := .bool (i_2092 == a2)) (t_cmp rfl rfl rfl rfl rfl) rfl rfl (VO.nil (thenQ_normal ?_)))))))))
      refine VW.subK (.c 0 rfl (.c 1 rfl (.c 2 rfl (.c 3 rfl (.c 9 rfl (.c 10 rfl (.c 41 rfl .n))))))) rfl ?_
      refine VW.cond (b := (i_2092 == a2)) rfl (fun hc_2102 => ?_) (fun hc_2102 => ?_)
      · replace h := iteT h hc_2102
        refine VW.seq (VW.region (VO.t (v := .bool true) (t_assign rfl (fun _ _ => rfl)) rfl rfl (VO.nil (thenQ_normal (VW.subK (.c 8 rfl .n) rfl (VW.frontS 0 rfl (VW.frontS 1 rfl (VW.subK (.c 8 rfl .n) rfl (VW.ret ?_)))))))))
        refine thenQ_ret (blockQ_ret (thenQ_ret (thenQ_ret ?_)))
        have h := Option.some.inj h
        subst h
        exact hx1 _ _ bp0_2091 rfl hbp0_2091
      · replace h := iteF h hc_2102
        refine VW.skip (thenQ_normal (VW.subK (.c 0 rfl (.c 1 rfl (.c 2 rfl (.c 3 rfl (.c 9 rfl (.c 10 rfl .n)))))) rfl (VW.seq (VW.seq (VW.region (VO.t (t_move rfl rfl) rfl rfl (VO.t (t_move rfl rfl) rfl rfl (VO.t (v := .int .i64 (w64 (a2 - a1))) (t_sub rfl rfl rfl rfl) rfl rfl (VO.t (v := .bool (decide ((w64 (a2 - a1)) < 50))) (t_cmp rfl rfl rfl (fun _ _ => rfl) rfl) rfl rfl ?_)))))))))
        refine VO.nil (thenQ_normal (VW.subK (.c 0 rfl (.c 1 rfl (.c 2 rfl (.c 3 rfl (.c 9 rfl (.c 10 rfl (.c 45 rfl .n))))))) rfl ?_))
        refine VW.cond (b := (decide ((w64 (a2 - a1)) < 50))) rfl (fun hc_2103 => ?_) (fun hc_2103 => ?_)
        · replace h := iteT h hc_2103
          refine VW.seq (VW.region (VO.t (v := .bool false) (t_assign rfl (fun _ _ => rfl)) rfl rfl (VO.nil (thenQ_normal (VW.subK (.c 8 rfl .n) rfl (VW.frontS 0 rfl (VW.frontS 1 rfl (VW.subK (.c 8 rfl .n) rfl (VW.ret ?_)))))))))
          refine thenQ_ret (blockQ_ret (thenQ_ret (thenQ_ret ?_)))
          have h := Option.some.inj h
          subst h
          exact hx1 _ _ bp0_2091 rfl hbp0_2091
        · replace h := iteF h hc_2103
          refine VW.skip (thenQ_normal (VW.subK (.c 0 rfl (.c 1 rfl (.c 2 rfl (.c 3 rfl (.c 9 rfl (.c 10 rfl .n)))))) rfl (VW.seq (VW.draw 18 mix rfl (VA.t (i := 0) rfl (t_move rfl rfl) (.inl rfl) (by kernel_rfl) (VA.t (i := 1) rfl (t_move rfl rfl) (.inl rfl) (by kernel_rfl) (VA.t (i := 2) rfl (t_move rfl rfl) (.inl rfl) (by kernel_rfl) (VA.t (i := 3) rfl (t_move rfl rfl) (.inl rfl) (by kernel_rfl) (VA.t (i := 4) (v := .int .i64 (w64 (i_2092 - 1))) rfl (t_sub rfl rfl (fun _ _ => rfl) rfl) (.inl rfl) (by kernel_rfl) ?_)))))))))
          refine VA.phase (g := 3) [5, 6, 7, 8, 9, 10, 11, 12, 13, 14] 10 (VP.take (i := 5) rfl (TOp.r (t_move rfl rfl)) (.inl rfl) (by kernel_rfl) (VP.take (i := 6) rfl (TOp.r (t_move rfl rfl)) (.inl rfl) (by kernel_rfl) (VP.take (i := 7) (v := .int .i64 (w64 (i_2092 - 1))) rfl (TOp.r (t_sub rfl rfl (fun _ _ => rfl) rfl)) (.inl rfl) (by kernel_rfl) ?_)))
          obtain ⟨c_2104, hc_2104, h⟩ := obind h
          obtain ⟨ob_2105, cap_2105, len_2105, sl_2105, rfl, rfl, hE_2105, hl_2105, hc_2105, hs_2105⟩ := buf_at hbp0_2091 hc_2104
          refine VP.take (i := 8) (v := .ptr ob_2105 ((w64 (i_2092 - 1)).toNat * 2 + 0)) rfl (TOp.r (t_index_own rfl sl22 rfl rfl (getI_some hc_2104).1 (by rw [hl_2105]; exact getI_lt hc_2104) rfl)) (.inl rfl) (by kernel_rfl) (VP.take (i := 9) (v := .agg [.int .i64 c_2104.x0, .int .i64 c_2104.x1]) rfl (r_load_buf (n := 2) (f := 0) (j := 1) rfl sz49 rfl rfl hE_2105 (map_get (getI_some hc_2104).2 (Pr.c_eq c_2104)) (Nat.le_of_ble_eq_true rfl) (fun _ => ofCells_agg rfl)) (.inl rfl) (by kernel_rfl) (VP.take (i := 10) rfl (TOp.r (t_move rfl rfl)) (.inl rfl) (by kernel_rfl) (VP.take (i := 11) rfl (TOp.r (t_move rfl rfl)) (.inl rfl) (by kernel_rfl) ?_)))
          obtain ⟨c_2106, hc_2106, h⟩ := obind h
          refine VP.take (i := 12) (v := .ptr ob_2105 (i_2092.toNat * 2 + 0)) rfl (TOp.r (t_index_own rfl sl22 rfl rfl (getI_some hc_2106).1 (by rw [hl_2105]; exact getI_lt hc_2106) rfl)) (.inl rfl) (by kernel_rfl) (VP.take (i := 13) (v := .agg [.int .i64 c_2106.x0, .int .i64 c_2106.x1]) rfl (r_load_buf (n := 2) (f := 0) (j := 1) rfl sz49 rfl rfl hE_2105 (map_get (getI_some hc_2106).2 (Pr.c_eq c_2106)) (Nat.le_of_ble_eq_true rfl) (fun _ => ofCells_agg rfl)) (.inl rfl) (by kernel_rfl) (VP.take (i := 14) (v := .ptr ob_2105 (i_2092.toNat * 2 + 0)) rfl (TOp.r (t_index_own rfl sl22 rfl rfl (getI_some hc_2106).1 (by rw [hl_2105]; exact getI_lt hc_2106) rfl)) (.inl rfl) (by kernel_rfl) (VP.done (by kernel_rfl) (VA.w (i := 15) (fun v H' => .any = v ∧ H' = hq ([a3_g, [(ob_2105, .cells (((bu_1829.set i_2092.toNat c_2104).map Pr.c).flatten ++ sl_2105))]]) []) rfl (w_store_buf (n := 2) (f := 0) (j := 1) rfl sz49 rfl rfl rfl hE_2105 (map_get (getI_some hc_2106).2 (Pr.c_eq c_2106)) rfl rfl (Nat.le_of_ble_eq_true rfl) rfl (map_set (Pr.c_eq c_2104)) ⟨rfl, rfl⟩) (.inl rfl) (by kernel_rfl) rfl ?_))))
          rintro _ _ ⟨rfl, rfl⟩
          have hl_2108 : len_2105 = (bu_1829.set i_2092.toNat c_2104).length := by simp [hl_2105]
          obtain ⟨c_2109, hc_2109, h⟩ := obind h
          refine VA.t (i := 16) (v := .ptr ob_2105 ((w64 (i_2092 - 1)).toNat * 2 + 0)) rfl (t_index_own rfl sl22 rfl rfl (getI_some hc_2109).1 (by rw [hl_2108]; exact getI_lt hc_2109) rfl) (.inl rfl) (by kernel_rfl) (VA.w (i := 17) (fun v H' => .any = v ∧ H' = hq ([a3_g, [(ob_2105, .cells ((((bu_1829.set i_2092.toNat c_2104).set (w64 (i_2092 - 1)).toNat c_2106).map Pr.c).flatten ++ sl_2105))]]) []) rfl (w_store_buf (n := 2) (f := 0) (j := 1) rfl sz49 rfl rfl rfl (elemsOK_map Pr.c_ok _) (map_get (getI_some hc_2109).2 (Pr.c_eq c_2109)) rfl rfl (Nat.le_of_ble_eq_true rfl) rfl (map_set (Pr.c_eq c_2106)) ⟨rfl, rfl⟩) (.inl rfl) (by kernel_rfl) rfl ?_)
          rintro _ _ ⟨rfl, rfl⟩
          have hl_2111 : len_2105 = ((bu_1829.set i_2092.toNat c_2104).set (w64 (i_2092 - 1)).toNat c_2106).length := by simp [hl_2108]
          refine VA.done (by kernel_rfl) (thenQ_normal (VW.subK (.c 0 rfl (.c 1 rfl (.c 2 rfl (.c 3 rfl (.c 9 rfl (.c 10 rfl .n)))))) rfl (VW.seq (VW.seq (VW.region (VO.t (t_move rfl rfl) rfl rfl (VO.t (t_move rfl rfl) rfl rfl (VO.t (v := .int .i64 (w64 (i_2092 - a1))) (t_sub rfl rfl rfl rfl) rfl rfl (VO.t (v := .bool (decide ((w64 (i_2092 - a1)) ≥ 2))) (t_cmp rfl rfl rfl (fun _ _ => rfl) rfl) rfl rfl ?_)))))))))
          refine VO.nil (thenQ_normal (VW.subK (.c 0 rfl (.c 1 rfl (.c 2 rfl (.c 3 rfl (.c 9 rfl (.c 10 rfl (.c 65 rfl .n))))))) rfl ?_))
          obtain ⟨o_2161, h, hx_2159⟩ := obind h
          refine VW.joinQ (E := List Pr × Seg) (I := fun ⟨bu_2157, bp0_2158⟩ => bu_2157 = o_2161 ∧ Buf 2 (bu_2157.map Pr.c) (.own ob_2105 cap_2105 len_2105) bp0_2158 ∧ True) (env' := fun ⟨bu_2157, bp0_2158⟩ => ⟨[(0, .own ob_2105 cap_2105 len_2105), (1, .int .i64 a1), (2, .int .i64 a2), (3, .func (.func a3_f) a3_a a3_c), (9, .int .i64 i_2092), (10, .int .i64 j_1832)], []⟩) (H' := fun ⟨bu_2157, bp0_2158⟩ => hq ([a3_g, bp0_2158]) []) ?_ (fun J_2160 => ?_)
          · rintro ⟨bu_2157, bp0_2158⟩ ⟨ho_, hbp0_2158, _⟩
            subst ho_
            replace h := hx_2159
            clear hx_2159
            try dsimp only at h
            show VW _ _ _ _ ⟨[(0, .own ob_2105 cap_2105 len_2105), (1, .int .i64 a1), (2, .int .i64 a2), (3, .func (.func a3_f) a3_a a3_c), (9, .int .i64 i_2092), (10, .int .i64 j_1832)], []⟩ (hq ([a3_g, bp0_2158]) [])
            refine VW.seq (VW.region (VO.t (t_move rfl rfl) rfl rfl (VO.t (t_move rfl rfl) rfl rfl (VO.t (v := .int .i64 (w64 (a2 - i_2092))) (t_sub rfl rfl rfl rfl) rfl rfl (VO.t (v := .bool (decide ((w64 (a2 - i_2092)) ≥ 2))) (t_cmp rfl rfl rfl (fun _ _ => rfl) rfl) rfl rfl (VO.nil (thenQ_normal (VW.subK (.c 0 rfl (.c 1 rfl (.c 2 rfl (.c 3 rfl (.c 9 rfl (.c 10 rfl (.c 104 rfl .n))))))) rfl ?_))))))))
            refine VW.cond (b := (decide ((w64 (a2 - i_2092)) ≥ 2))) rfl (fun hc_2162 => ?_) (fun hc_2162 => ?_)
            · replace h := iteT h hc_2162
              refine VW.seq (VW.region (VO.t (t_move rfl rfl) rfl rfl (VO.t (v := .int .i64 (w64 (i_2092 + 1))) (t_add rfl rfl (fun _ _ => rfl) rfl) rfl rfl (VO.t (v := .int .i64 (w64 (i_2092 + 1))) (t_assign rfl rfl) rfl rfl (VO.nil (thenQ_normal (VW.subK (.c 0 rfl (.c 1 rfl (.c 2 rfl (.c 3 rfl (.c 9 rfl (.c 10 rfl (.c 12 rfl .n))))))) rfl (VW.block (VW.subK (.c 0 rfl (.c 1 rfl (.c 2 rfl (.c 3 rfl (.c 9 rfl (.c 10 rfl (.c 12 rfl .n))))))) rfl ?_)))))))))
              obtain ⟨o_2205, hx_2206, h⟩ := obind h
              refine VW.loopL (slices_partialInsertionSortCmpFunc_2int.l2_ok a3 a1 a2 i_2092 j_1832 a3_f a3_a a3_c a3_g a3_k a3_h _ _ _ hx_2206 (.own ob_2105 cap_2105 len_2105) bp0_2158 hbp0_2158 ?_)
              · intro bu_2191 bp0_2192 ho_ hbp0_2192
                subst ho_
                try dsimp only at h
                refine blockQ_hit (blockQ_normal (thenQ_normal (VW.region (VO.t (t_move rfl rfl) rfl rfl (VO.t (v := .int .i64 (w64 (j_1832 + 1))) (t_add rfl rfl (fun _ _ => rfl) rfl) rfl rfl (VO.t (v := .int .i64 (w64 (j_1832 + 1))) (t_assign rfl rfl) rfl rfl (VO.nil (thenQ_normal (VL.round ?_)))))))))
                refine VW.subK (.c 0 rfl (.c 1 rfl (.c 2 rfl (.c 3 rfl (.c 9 rfl (.c 10 rfl .n)))))) rfl (VW.frontS 0 rfl (VW.frontS 1 rfl ?_))
                exact ih _ _ _ _ h (.own ob_2105 cap_2105 len_2105) bp0_2192 hbp0_2192 hx0 hx1
            · replace h := iteF h hc_2162
              refine VW.skip (blockQ_normal (thenQ_normal (VW.subK (.c 0 rfl (.c 1 rfl (.c 2 rfl (.c 3 rfl (.c 9 rfl (.c 10 rfl .n)))))) rfl (VW.region (VO.t (t_move rfl rfl) rfl rfl (VO.t (v := .int .i64 (w64 (j_1832 + 1))) (t_add rfl rfl (fun _ _ => rfl) rfl) rfl rfl (VO.t (v := .int .i64 (w64 (j_1832 + 1))) (t_assign rfl rfl) rfl rfl (VO.nil (thenQ_normal (VL.round ?_))))))))))
              refine VW.subK (.c 0 rfl (.c 1 rfl (.c 2 rfl (.c 3 rfl (.c 9 rfl (.c 10 rfl .n)))))) rfl (VW.frontS 0 rfl (VW.frontS 1 rfl ?_))
              exact ih _ _ _ _ h (.own ob_2105 cap_2105 len_2105) bp0_2158 hbp0_2158 hx0 hx1
          · refine VW.cond (b := (decide ((w64 (i_2092 - a1)) ≥ 2))) rfl (fun hc_2207 => ?_) (fun hc_2207 => ?_)
            · replace h := iteT h hc_2207
              refine VW.seq (VW.region (VO.t (t_move rfl rfl) rfl rfl (VO.t (v := .int .i64 (w64 (i_2092 - 1))) (t_sub rfl rfl (fun _ _ => rfl) rfl) rfl rfl (VO.t (v := .int .i64 (w64 (i_2092 - 1))) (t_assign rfl rfl) rfl rfl (VO.nil (thenQ_normal (VW.subK (.c 0 rfl (.c 1 rfl (.c 2 rfl (.c 3 rfl (.c 9 rfl (.c 10 rfl (.c 11 rfl .n))))))) rfl (VW.block (VW.subK (.c 0 rfl (.c 1 rfl (.c 2 rfl (.c 3 rfl (.c 9 rfl (.c 10 rfl (.c 11 rfl .n))))))) rfl ?_)))))))))
              obtain ⟨o_2250, hx_2251, h⟩ := obind h
              refine VW.loopL (slices_partialInsertionSortCmpFunc_2int.l3_ok a3 a1 a2 i_2092 j_1832 a3_f a3_a a3_c a3_g a3_k a3_h _ _ _ hx_2251 (.own ob_2105 cap_2105 len_2105) [(ob_2105, .cells ((((bu_1829.set i_2092.toNat c_2104).set (w64 (i_2092 - 1)).toNat c_2106).map Pr.c).flatten ++ sl_2105))] (Buf.own (n := 2) (l := ((bu_1829.set i_2092.toNat c_2104).set (w64 (i_2092 - 1)).toNat c_2106).map Pr.c) ob_2105 cap_2105 len_2105 sl_2105 (elemsOK_map Pr.c_ok _) (by simp [hl_2111]) hc_2105 hs_2105) ?_)
              · intro bu_2236 bp0_2237 ho_ hbp0_2237
                subst ho_
                try dsimp only at h
                refine blockQ_hit ?_
                exact thenQ_normal (J_2160 ⟨bu_2236, bp0_2237⟩ ⟨Option.some.inj h, hbp0_2237, trivial⟩)
            · replace h := iteF h hc_2207
              refine VW.subK (.c 0 rfl (.c 1 rfl (.c 2 rfl (.c 3 rfl (.c 9 rfl (.c 10 rfl .n)))))) rfl (VW.skip ?_)
              exact thenQ_normal (J_2160 ⟨(bu_1829.set i_2092.toNat c_2104).set (w64 (i_2092 - 1)).toNat c_2106, [(ob_2105, .cells ((((bu_1829.set i_2092.toNat c_2104).set (w64 (i_2092 - 1)).toNat c_2106).map Pr.c).flatten ++ sl_2105))]⟩ ⟨Option.some.inj h, (Buf.own (n := 2) (l := ((bu_1829.set i_2092.toNat c_2104).set (w64 (i_2092 - 1)).toNat c_2106).map Pr.c) ob_2105 cap_2105 len_2105 sl_2105 (elemsOK_map Pr.c_ok _) (by simp [hl_2111]) hc_2105 hs_2105), trivial⟩)
  · replace h := iteF h hc_2045
    refine VW.subN (t' := []) trivial rfl (VW.exit (thenQ_exit (thenQ_exit ?_)))
    have h := Option.some.inj h
    subst h
    exact hx0 _ bp0_1830 rfl hbp0_1830

theorem slices_partialInsertionSortCmpFunc_2int_ok (a0 : List Pr) (a1 : Int) (a2 : Int) (a3 : Pr → Pr → Option Int) (r : Bool × List Pr) (h : PL.slices_partialInsertionSortCmpFunc_2int a0 a1 a2 a3 = some r) (v0 : VV) (b0 : Seg) (a3_f : Nat) (a3_a : List VV) (a3_c : List VV) (a3_g : Seg) (hB0 : Buf 2 (a0.map Pr.c) v0 b0) (a3_k : FnOK Try.prog a3_f) (a3_h : ∀ (y0 : Pr) (y1 : Pr) (z : Int), a3 y0 y1 = some z → VCalls Try.prog a3_f (a3_a ++ [.agg [.int .i64 y0.x0, .int .i64 y0.x1], .agg [.int .i64 y1.x0, .int .i64 y1.x1]] ++ a3_c) (hq [a3_g] []) (fun v H => .int .i64 z = v ∧ H = hq [a3_g] [])) :
    VCalls Try.prog 66 [v0, .int .i64 a1, .int .i64 a2, .func (.func a3_f) a3_a a3_c] (hq [b0, a3_g] []) (fun v H => ∃ bk0, Buf 2 (r.2.map Pr.c) v0 bk0 ∧ .bool r.1 = v ∧ H = hq [bk0, a3_g] []) := by
  unfold PL.slices_partialInsertionSortCmpFunc_2int at h
  refine VCalls.of_body 141 [8] Try.func66 rfl rfl rfl (Nat.le_of_ble_eq_true rfl) (VW.subK (.c 0 rfl (.c 1 rfl (.c 2 rfl (.c 3 rfl .n)))) rfl (VW.seq (VW.region (VO.t (v := .bool false) (t_assign rfl (fun _ _ => rfl)) rfl rfl (VO.nil (thenQ_normal (VW.subK (.c 0 rfl (.c 1 rfl (.c 2 rfl (.c 3 rfl .n)))) rfl (VW.seq (VW.region ?_)))))))))
  refine VO.t (t_move rfl rfl) rfl rfl (VO.t (v := .int .i64 (w64 (a1 + 1))) (t_add rfl rfl (fun _ _ => rfl) rfl) rfl rfl (VO.t (v := .int .i64 (w64 (a1 + 1))) (t_assign rfl rfl) rfl rfl (VO.nil (thenQ_normal (VW.subK (.c 0 rfl (.c 1 rfl (.c 2 rfl (.c 3 rfl (.c 9 rfl .n))))) rfl (VW.seq (VW.seq (VW.region (VO.t (v := .int .i64 0) (t_assign rfl (fun _ _ => rfl)) rfl rfl ?_)))))))))
  refine VO.nil (thenQ_normal (VW.block (VW.subK (.c 0 rfl (.c 1 rfl (.c 2 rfl (.c 3 rfl (.c 9 rfl (.c 10 rfl .n)))))) rfl ?_)))
  obtain ⟨o_2252, hx_2253, h⟩ := obind h
  refine VW.loopL (slices_partialInsertionSortCmpFunc_2int.l0_ok a3 a1 a2 a3_f a3_a a3_c a3_g a3_k a3_h _ _ _ _ hx_2253 v0 b0 hB0 ?_ ?_)
  · intro bu_2040 bp0_2041 ho_ hbp0_2041
    subst ho_
    try dsimp only at h
    refine blockQ_hit (thenQ_normal (VW.seq (VW.region (VO.t (v := .bool false) (t_assign rfl (fun _ _ => rfl)) rfl rfl (VO.nil (thenQ_normal (VW.ret ?_)))))))
    have h := Option.some.inj h
    subst h
    exact ⟨.inr rfl, rfl, _, .bool false, hq [bp0_2041, a3_g] [], rfl, VLe.refl _, hq_sub (.cons_cons _ (.cons_cons _ .slnil)) .slnil, bp0_2041, hbp0_2041, rfl, rfl⟩
  · intro bu_2042 x_2044 bp0_2043 ho_ hbp0_2043
    subst ho_
    try dsimp only at h
    refine blockQ_ret (thenQ_ret ?_)
    have h := Option.some.inj h
    subst h
    exact ⟨.inr rfl, rfl, _, .bool x_2044, hq [bp0_2043, a3_g] [], rfl, VLe.refl _, hq_sub (.cons_cons _ (.cons_cons _ .slnil)) .slnil, bp0_2043, hbp0_2043, rfl, rfl⟩

theorem slices_partitionEqualCmpFunc_2int.l1_ok (a4 : Pr → Pr → Option Int) (a1 : Int) (bu_2757 : List Pr) (j_2760 : Int) (a4_f : Nat) (a4_a a4_c : List VV) (a4_g : Seg) (a4_k : FnOK Try.prog a4_f) (a4_h : ∀ (y0 : Pr) (y1 : Pr) (z : Int), a4 y0 y1 = some z → VCalls Try.prog a4_f (a4_a ++ [.agg [.int .i64 y0.x0, .int .i64 y0.x1], .agg [.int .i64 y1.x0, .int .i64 y1.x1]] ++ a4_c) (hq [a4_g] []) (fun v H => .int .i64 z = v ∧ H = hq [a4_g] [])) {Q : Exit → Env → HH → Prop} :
    ∀ (i_2922 : Int) (o : Int), PL.slices_partitionEqualCmpFunc_2int.l1 a4 a1 bu_2757 j_2760 i_2922 = some o →
    ∀ (vp0_2921 : VV) (bp0_2921 : Seg) (hbp0_2921 : Buf 2 (bu_2757.map Pr.c) vp0_2921 bp0_2921) (hx0 : ∀ (i_2931 : Int) (bp0_2930 : Seg), i_2931 = o → Buf 2 (bu_2757.map Pr.c) vp0_2921 bp0_2930 → Q (.exit 2) ⟨[(0, vp0_2921), (1, .int .i64 a1), (4, .func (.func a4_f) a4_a a4_c), (11, .int .i64 i_2931), (12, .int .i64 j_2760)], []⟩ (hq ([a4_g, bp0_2930]) [])), VW Try.prog 90 (codeAt [1, 1, 1, 0, 0, 0, 0, 0, 0, 0] (bodyOf Try.f67)) (thenQ (VL Try.prog 90 (codeAt [1, 1, 1, 0, 0, 0, 0, 0, 0, 0] (bodyOf Try.f67)) Q) Q) ⟨[(0, vp0_2921), (1, .int .i64 a1), (4, .func (.func a4_f) a4_a a4_c), (11, .int .i64 i_2922), (12, .int .i64 j_2760)], []⟩ (hq ([bp0_2921, a4_g]) []) := by
  refine PL.slices_partitionEqualCmpFunc_2int.l1.partial_correctness a4 a1 bu_2757 j_2760 (motive := fun i_2922 o => ∀ (vp0_2921 : VV) (bp0_2921 : Seg) (hbp0_2921 : Buf 2 (bu_2757.map Pr.c) vp0_2921 bp0_2921) (hx0 : ∀ (i_2931 : Int) (bp0_2930 : Seg), i_2931 = o → Buf 2 (bu_2757.map Pr.c) vp0_2921 bp0_2930 → Q (.exit 2) ⟨[(0, vp0_2921), (1, .int .i64 a1), (4, .func (.func a4_f) a4_a a4_c), (11, .int .i64 i_2931), (12, .int .i64 j_2760)], []⟩ (hq ([a4_g, bp0_2930]) [])), VW Try.prog 90 (codeAt [1, 1, 1, 0, 0, 0, 0, 0, 0, 0] (bodyOf Try.f67)) (thenQ (VL Try.prog 90 (codeAt [1, 1, 1, 0, 0, 0, 0, 0, 0, 0] (bodyOf Try.f67)) Q) Q) ⟨[(0, vp0_2921), (1, .int .i64 a1), (4, .func (.func a4_f) a4_a a4_c), (11, .int .i64 i_2922), (12, .int .i64 j_2760)], []⟩ (hq ([bp0_2921, a4_g]) [])) ?_
  intro _ ih i_2922 o h vp0_2921 bp0_2921 hbp0_2921 hx0
  refine VW.seq (VW.seq (VW.draw 17 mix rfl (VA.t (i := 0) rfl (t_move rfl rfl) (.inl rfl) (by kernel_rfl) (VA.t (i := 1) rfl (t_move rfl rfl) (.inl rfl) (by kernel_rfl) (VA.t (i := 2) (v := .bool (decide (i_2922 ≤ j_2760))) rfl (t_cmp rfl rfl rfl rfl rfl) (.inl rfl) (by kernel_rfl) (VA.t (i := 3) rfl (t_move rfl rfl) (.inl rfl) (by kernel_rfl) ?_))))))
  refine VA.caseB (d := 34) (b := (decide (i_2922 ≤ j_2760))) rfl (fun hc_2932 => ?_) (fun hc_2932 => ?_)
  · replace h := iteT h hc_2932
    refine VA.phase (g := 4) [4, 5, 6, 7, 8, 9, 10, 11, 12] 9 (VP.take (i := 4) rfl (TOp.r (t_move rfl rfl)) (.inr ⟨_, _, _, rfl, rfl, rfl⟩) (by kernel_rfl) (VP.take (i := 5) rfl (TOp.r (t_move rfl rfl)) (.inr ⟨_, _, _, rfl, rfl, rfl⟩) (by kernel_rfl) (VP.take (i := 6) rfl (TOp.r (t_move rfl rfl)) (.inr ⟨_, _, _, rfl, rfl, rfl⟩) (by kernel_rfl) ?_)))
    obtain ⟨c_2933, hc_2933, h⟩ := obind h
    obtain ⟨ob_2934, cap_2934, len_2934, sl_2934, rfl, rfl, hE_2934, hl_2934, hc_2934, hs_2934⟩ := buf_at hbp0_2921 hc_2933
    refine VP.take (i := 7) (v := .ptr ob_2934 (a1.toNat * 2 + 0)) rfl (TOp.r (t_index_own rfl sl22 rfl rfl (getI_some hc_2933).1 (by rw [hl_2934]; exact getI_lt hc_2933) rfl)) (.inr ⟨_, _, _, rfl, rfl, rfl⟩) (by kernel_rfl) (VP.take (i := 8) (v := .agg [.int .i64 c_2933.x0, .int .i64 c_2933.x1]) rfl (r_load_buf (n := 2) (f := 0) (j := 0) rfl sz49 rfl rfl hE_2934 (map_get (getI_some hc_2933).2 (Pr.c_eq c_2933)) (Nat.le_of_ble_eq_true rfl) (fun _ => ofCells_agg rfl)) (.inr ⟨_, _, _, rfl, rfl, rfl⟩) (by kernel_rfl) (VP.take (i := 9) rfl (TOp.r (t_move rfl rfl)) (.inr ⟨_, _, _, rfl, rfl, rfl⟩) (by kernel_rfl) (VP.take (i := 10) rfl (TOp.r (t_move rfl rfl)) (.inr ⟨_, _, _, rfl, rfl, rfl⟩) (by kernel_rfl) ?_)))
    obtain ⟨c_2935, hc_2935, h⟩ := obind h
    refine VP.take (i := 11) (v := .ptr ob_2934 (i_2922.toNat * 2 + 0)) rfl (TOp.r (t_index_own rfl sl22 rfl rfl (getI_some hc_2935).1 (by rw [hl_2934]; exact getI_lt hc_2935) rfl)) (.inr ⟨_, _, _, rfl, rfl, rfl⟩) (by kernel_rfl) (VP.take (i := 12) (v := .agg [.int .i64 c_2935.x0, .int .i64 c_2935.x1]) rfl (r_load_buf (n := 2) (f := 0) (j := 0) rfl sz49 rfl rfl hE_2934 (map_get (getI_some hc_2935).2 (Pr.c_eq c_2935)) (Nat.le_of_ble_eq_true rfl) (fun _ => ofCells_agg rfl)) (.inr ⟨_, _, _, rfl, rfl, rfl⟩) (by kernel_rfl) (VP.done (by kernel_rfl) (VA.frontS 1 rfl ?_)))
    obtain ⟨rv_2936, hx_2937, h⟩ := obind h
    refine VA.w (i := 13) (fun v H' => .int .i64 rv_2936 = v ∧ H' = hq ([a4_g, [(ob_2934, .cells ((bu_2757.map Pr.c).flatten ++ sl_2934))]]) []) rfl (w_call_q (sa := [a4_g]) (sg := [[(ob_2934, .cells ((bu_2757.map Pr.c).flatten ++ sl_2934))]]) (tks := []) rfl a4_k rfl ⟨_, _, rfl, rfl, _, _, rfl, rfl, rfl⟩ (a4_h _ _ _ hx_2937) (by rintro v H' ⟨rfl, rfl⟩; exact ⟨[a4_g], rfl, rfl, rfl⟩)) (.inr ⟨_, _, _, rfl, rfl, rfl⟩) (by kernel_rfl) rfl ?_
    rintro _ _ ⟨rfl, rfl⟩
    refine VA.t (i := 14) (v := .bool (decide (rv_2936 < 0))) rfl (t_cmp rfl rfl rfl (fun _ _ => rfl) rfl) (.inr ⟨_, _, _, rfl, rfl, rfl⟩) (by kernel_rfl) (VA.t (i := 15) (v := .bool (!(decide (rv_2936 < 0)))) rfl (t_not rfl rfl rfl) (.inr ⟨_, _, _, rfl, rfl, rfl⟩) (by kernel_rfl) (VA.t (i := 16) (v := .bool (!(decide (rv_2936 < 0)))) rfl (t_pick (b := true) rfl rfl (fun _ => rfl) (fun h => by cases h)) (.inl rfl) (by kernel_rfl) (VA.done (by kernel_rfl) (thenQ_normal (VW.subK (.c 0 rfl (.c 1 rfl (.c 4 rfl (.c 11 rfl (.c 12 rfl (.c 35 rfl (.c 36 rfl (.c 37 rfl (.c 38 rfl (.c 39 rfl (.c 40 rfl (.c 41 rfl (.c 42 rfl (.c 43 rfl (.c 44 rfl (.c 45 rfl (.c 46 rfl (.c 47 rfl .n)))))))))))))))))) rfl ?_)))))
    refine VW.cond (b := (!(decide (rv_2936 < 0)))) rfl (fun hc_2938 => ?_) (fun hc_2938 => ?_)
    · replace h := iteT h hc_2938
      refine VW.skip (thenQ_normal (VW.subK (.c 0 rfl (.c 1 rfl (.c 4 rfl (.c 11 rfl (.c 12 rfl (.c 35 rfl (.c 36 rfl (.c 37 rfl (.c 38 rfl (.c 39 rfl (.c 40 rfl (.c 41 rfl (.c 42 rfl (.c 43 rfl (.c 44 rfl (.c 45 rfl (.c 46 rfl .n))))))))))))))))) rfl (VW.block (VW.region (VO.t (t_move rfl rfl) rfl rfl (VO.t (v := .int .i64 (w64 (i_2922 + 1))) (t_add rfl rfl (fun _ _ => rfl) rfl) rfl rfl (VO.t (v := .int .i64 (w64 (i_2922 + 1))) (t_assign rfl rfl) rfl rfl (VO.nil (blockQ_normal ?_)))))))))
      refine thenQ_normal (VL.round ?_)
      refine VW.subK (.c 0 rfl (.c 1 rfl (.c 4 rfl (.c 11 rfl (.c 12 rfl .n))))) rfl (VW.frontS 0 rfl (VW.frontS 1 rfl ?_))
      exact ih _ _ h (.own ob_2934 cap_2934 len_2934) [(ob_2934, .cells ((bu_2757.map Pr.c).flatten ++ sl_2934))] (Buf.own (n := 2) (l := bu_2757.map Pr.c) ob_2934 cap_2934 len_2934 sl_2934 (elemsOK_map Pr.c_ok _) (by simp [hl_2934]) hc_2934 hs_2934) hx0
    · replace h := iteF h hc_2938
      refine VW.subK (.c 0 rfl (.c 1 rfl (.c 4 rfl (.c 11 rfl (.c 12 rfl .n))))) rfl (VW.exit (thenQ_exit (thenQ_exit ?_)))
      have h := Option.some.inj h
      subst h
      exact hx0 _ [(ob_2934, .cells ((bu_2757.map Pr.c).flatten ++ sl_2934))] rfl (Buf.own (n := 2) (l := bu_2757.map Pr.c) ob_2934 cap_2934 len_2934 sl_2934 (elemsOK_map Pr.c_ok _) (by simp [hl_2934]) hc_2934 hs_2934)
  · replace h := iteF h hc_2932
    refine VA.skip (i := 4) rfl rfl rfl rfl rfl (by kernel_rfl) (VA.skip (i := 5) rfl rfl rfl rfl rfl (by kernel_rfl) (VA.skip (i := 6) rfl rfl rfl rfl rfl (by kernel_rfl) (VA.skip (i := 7) rfl rfl rfl rfl rfl (by kernel_rfl) (VA.skip (i := 8) rfl rfl rfl rfl rfl (by kernel_rfl) (VA.skip (i := 9) rfl rfl rfl rfl rfl (by kernel_rfl) (VA.skip (i := 10) rfl rfl rfl rfl rfl (by kernel_rfl) (VA.skip (i := 11) rfl rfl rfl rfl rfl (by kernel_rfl) (VA.skip (i := 12) rfl rfl rfl rfl rfl (by kernel_rfl) (VA.skip (i := 13) rfl rfl rfl rfl rfl (by kernel_rfl) ?_)))))))))
    refine VA.skip (i := 14) rfl rfl rfl rfl rfl (by kernel_rfl) (VA.skip (i := 15) rfl rfl rfl rfl rfl (by kernel_rfl) (VA.t (i := 16) (v := .bool false) rfl (t_pick (b := false) rfl rfl (fun h => by cases h) (fun _ => (fun _ _ => rfl))) (.inl rfl) (by kernel_rfl) (VA.done (by kernel_rfl) (thenQ_normal (VW.subK (.c 0 rfl (.c 1 rfl (.c 4 rfl (.c 11 rfl (.c 12 rfl (.c 35 rfl (.c 36 rfl (.c 37 rfl (.c 38 rfl (.c 39 rfl (.c 40 rfl (.c 41 rfl (.c 42 rfl (.c 43 rfl (.c 44 rfl (.c 45 rfl (.c 46 rfl (.c 47 rfl .n)))))))))))))))))) rfl (VW.condF rfl (VW.subK (.c 0 rfl (.c 1 rfl (.c 4 rfl (.c 11 rfl (.c 12 rfl .n))))) rfl (VW.frontS 0 rfl (VW.frontS 1 rfl ?_)))))))))
    refine VW.exit (thenQ_exit (thenQ_exit ?_))
    have h := Option.some.inj h
    subst h
    exact hx0 _ bp0_2921 rfl hbp0_2921

theorem slices_partitionEqualCmpFunc_2int.l2_ok (a4 : Pr → Pr → Option Int) (a1 : Int) (bu_2757 : List Pr) (i_2931 : Int) (a4_f : Nat) (a4_a a4_c : List VV) (a4_g : Seg) (a4_k : FnOK Try.prog a4_f) (a4_h : ∀ (y0 : Pr) (y1 : Pr) (z : Int), a4 y0 y1 = some z → VCalls Try.prog a4_f (a4_a ++ [.agg [.int .i64 y0.x0, .int .i64 y0.x1], .agg [.int .i64 y1.x0, .int .i64 y1.x1]] ++ a4_c) (hq [a4_g] []) (fun v H => .int .i64 z = v ∧ H = hq [a4_g] [])) {Q : Exit → Env → HH → Prop} :
    ∀ (j_2978 : Int) (o : Int), PL.slices_partitionEqualCmpFunc_2int.l2 a4 a1 bu_2757 i_2931 j_2978 = some o →
    ∀ (vp0_2977 : VV) (bp0_2977 : Seg) (hbp0_2977 : Buf 2 (bu_2757.map Pr.c) vp0_2977 bp0_2977) (hx0 : ∀ (j_2987 : Int) (bp0_2986 : Seg), j_2987 = o → Buf 2 (bu_2757.map Pr.c) vp0_2977 bp0_2986 → Q (.exit 4) ⟨[(0, vp0_2977), (1, .int .i64 a1), (4, .func (.func a4_f) a4_a a4_c), (11, .int .i64 i_2931), (12, .int .i64 j_2987)], []⟩ (hq ([a4_g, bp0_2986]) [])), VW Try.prog 90 (codeAt [1, 1, 1, 0, 0, 0, 0, 1, 0, 0, 0] (bodyOf Try.f67)) (thenQ (VL Try.prog 90 (codeAt [1, 1, 1, 0, 0, 0, 0, 1, 0, 0, 0] (bodyOf Try.f67)) Q) Q) ⟨[(0, vp0_2977), (1, .int .i64 a1), (4, .func (.func a4_f) a4_a a4_c), (11, .int .i64 i_2931), (12, .int .i64 j_2978)], []⟩ (hq ([a4_g, bp0_2977]) []) := by
  refine PL.slices_partitionEqualCmpFunc_2int.l2.partial_correctness a4 a1 bu_2757 i_2931 (motive := fun j_2978 o => ∀ (vp0_2977 : VV) (bp0_2977 : Seg) (hbp0_2977 : Buf 2 (bu_2757.map Pr.c) vp0_2977 bp0_2977) (hx0 : ∀ (j_2987 : Int) (bp0_2986 : Seg), j_2987 = o → Buf 2 (bu_2757.map Pr.c) vp0_2977 bp0_2986 → Q (.exit 4) ⟨[(0, vp0_2977), (1, .int .i64 a1), (4, .func (.func a4_f) a4_a a4_c), (11, .int .i64 i_2931), (12, .int .i64 j_2987)], []⟩ (hq ([a4_g, bp0_2986]) [])), VW Try.prog 90 (codeAt [1, 1, 1, 0, 0, 0, 0, 1, 0, 0, 0] (bodyOf Try.f67)) (thenQ (VL Try.prog 90 (codeAt [1, 1, 1, 0, 0, 0, 0, 1, 0, 0, 0] (bodyOf Try.f67)) Q) Q) ⟨[(0, vp0_2977), (1, .int .i64 a1), (4, .func (.func a4_f) a4_a a4_c), (11, .int .i64 i_2931), (12, .int .i64 j_2978)], []⟩ (hq ([a4_g, bp0_2977]) [])) ?_
  intro _ ih j_2978 o h vp0_2977 bp0_2977 hbp0_2977 hx0
  refine VW.seq (VW.seq (VW.draw 16 mix rfl (VA.t (i := 0) rfl (t_move rfl rfl) (.inl rfl) (by kernel_rfl) (VA.t (i := 1) rfl (t_move rfl rfl) (.inl rfl) (by kernel_rfl) (VA.t (i := 2) (v := .bool (decide (i_2931 ≤ j_2978))) rfl (t_cmp rfl rfl rfl rfl rfl) (.inl rfl) (by kernel_rfl) (VA.t (i := 3) rfl (t_move rfl rfl) (.inl rfl) (by kernel_rfl) ?_))))))
  refine VA.caseB (d := 53) (b := (decide (i_2931 ≤ j_2978))) rfl (fun hc_2988 => ?_) (fun hc_2988 => ?_)
  · replace h := iteT h hc_2988
    refine VA.phase (g := 3) [4, 5, 6, 7, 8, 9, 10, 11, 12] 9 (VP.take (i := 4) rfl (TOp.r (t_move rfl rfl)) (.inr ⟨_, _, _, rfl, rfl, rfl⟩) (by kernel_rfl) (VP.take (i := 5) rfl (TOp.r (t_move rfl rfl)) (.inr ⟨_, _, _, rfl, rfl, rfl⟩) (by kernel_rfl) (VP.take (i := 6) rfl (TOp.r (t_move rfl rfl)) (.inr ⟨_, _, _, rfl, rfl, rfl⟩) (by kernel_rfl) ?_)))
    obtain ⟨c_2989, hc_2989, h⟩ := obind h
    obtain ⟨ob_2990, cap_2990, len_2990, sl_2990, rfl, rfl, hE_2990, hl_2990, hc_2990, hs_2990⟩ := buf_at hbp0_2977 hc_2989
    refine VP.take (i := 7) (v := .ptr ob_2990 (a1.toNat * 2 + 0)) rfl (TOp.r (t_index_own rfl sl22 rfl rfl (getI_some hc_2989).1 (by rw [hl_2990]; exact getI_lt hc_2989) rfl)) (.inr ⟨_, _, _, rfl, rfl, rfl⟩) (by kernel_rfl) (VP.take (i := 8) (v := .agg [.int .i64 c_2989.x0, .int .i64 c_2989.x1]) rfl (r_load_buf (n := 2) (f := 0) (j := 1) rfl sz49 rfl rfl hE_2990 (map_get (getI_some hc_2989).2 (Pr.c_eq c_2989)) (Nat.le_of_ble_eq_true rfl) (fun _ => ofCells_agg rfl)) (.inr ⟨_, _, _, rfl, rfl, rfl⟩) (by kernel_rfl) (VP.take (i := 9) rfl (TOp.r (t_move rfl rfl)) (.inr ⟨_, _, _, rfl, rfl, rfl⟩) (by kernel_rfl) (VP.take (i := 10) rfl (TOp.r (t_move rfl rfl)) (.inr ⟨_, _, _, rfl, rfl, rfl⟩) (by kernel_rfl) ?_)))
    obtain ⟨c_2991, hc_2991, h⟩ := obind h
    refine VP.take (i := 11) (v := .ptr ob_2990 (j_2978.toNat * 2 + 0)) rfl (TOp.r (t_index_own rfl sl22 rfl rfl (getI_some hc_2991).1 (by rw [hl_2990]; exact getI_lt hc_2991) rfl)) (.inr ⟨_, _, _, rfl, rfl, rfl⟩) (by kernel_rfl) (VP.take (i := 12) (v := .agg [.int .i64 c_2991.x0, .int .i64 c_2991.x1]) rfl (r_load_buf (n := 2) (f := 0) (j := 1) rfl sz49 rfl rfl hE_2990 (map_get (getI_some hc_2991).2 (Pr.c_eq c_2991)) (Nat.le_of_ble_eq_true rfl) (fun _ => ofCells_agg rfl)) (.inr ⟨_, _, _, rfl, rfl, rfl⟩) (by kernel_rfl) (VP.done (by kernel_rfl) ?_))
    obtain ⟨rv_2992, hx_2993, h⟩ := obind h
    refine VA.w (i := 13) (fun v H' => .int .i64 rv_2992 = v ∧ H' = hq ([a4_g, [(ob_2990, .cells ((bu_2757.map Pr.c).flatten ++ sl_2990))]]) []) rfl (w_call_q (sa := [a4_g]) (sg := [[(ob_2990, .cells ((bu_2757.map Pr.c).flatten ++ sl_2990))]]) (tks := []) rfl a4_k rfl ⟨_, _, rfl, rfl, _, _, rfl, rfl, rfl⟩ (a4_h _ _ _ hx_2993) (by rintro v H' ⟨rfl, rfl⟩; exact ⟨[a4_g], rfl, rfl, rfl⟩)) (.inr ⟨_, _, _, rfl, rfl, rfl⟩) (by kernel_rfl) rfl ?_
    rintro _ _ ⟨rfl, rfl⟩
    refine VA.t (i := 14) (v := .bool (decide (rv_2992 < 0))) rfl (t_cmp rfl rfl rfl (fun _ _ => rfl) rfl) (.inr ⟨_, _, _, rfl, rfl, rfl⟩) (by kernel_rfl) (VA.t (i := 15) (v := .bool (decide (rv_2992 < 0))) rfl (t_pick (b := true) rfl rfl (fun _ => rfl) (fun h => by cases h)) (.inl rfl) (by kernel_rfl) (VA.done (by kernel_rfl) (thenQ_normal (VW.subK (.c 0 rfl (.c 1 rfl (.c 4 rfl (.c 11 rfl (.c 12 rfl (.c 54 rfl (.c 55 rfl (.c 56 rfl (.c 57 rfl (.c 58 rfl (.c 59 rfl (.c 60 rfl (.c 61 rfl (.c 62 rfl (.c 63 rfl (.c 64 rfl (.c 65 rfl .n))))))))))))))))) rfl ?_))))
    refine VW.cond (b := (decide (rv_2992 < 0))) rfl (fun hc_2994 => ?_) (fun hc_2994 => ?_)
    · replace h := iteT h hc_2994
      refine VW.skip (thenQ_normal (VW.subK (.c 0 rfl (.c 1 rfl (.c 4 rfl (.c 11 rfl (.c 12 rfl (.c 54 rfl (.c 55 rfl (.c 56 rfl (.c 57 rfl (.c 58 rfl (.c 59 rfl (.c 60 rfl (.c 61 rfl (.c 62 rfl (.c 63 rfl (.c 64 rfl .n)))))))))))))))) rfl (VW.block (VW.region (VO.t (t_move rfl rfl) rfl rfl (VO.t (v := .int .i64 (w64 (j_2978 - 1))) (t_sub rfl rfl (fun _ _ => rfl) rfl) rfl rfl (VO.t (v := .int .i64 (w64 (j_2978 - 1))) (t_assign rfl rfl) rfl rfl (VO.nil (blockQ_normal ?_)))))))))
      refine thenQ_normal (VL.round ?_)
      refine VW.subK (.c 0 rfl (.c 1 rfl (.c 4 rfl (.c 11 rfl (.c 12 rfl .n))))) rfl ?_
      exact ih _ _ h (.own ob_2990 cap_2990 len_2990) [(ob_2990, .cells ((bu_2757.map Pr.c).flatten ++ sl_2990))] (Buf.own (n := 2) (l := bu_2757.map Pr.c) ob_2990 cap_2990 len_2990 sl_2990 (elemsOK_map Pr.c_ok _) (by simp [hl_2990]) hc_2990 hs_2990) hx0
    · replace h := iteF h hc_2994
      refine VW.subK (.c 0 rfl (.c 1 rfl (.c 4 rfl (.c 11 rfl (.c 12 rfl .n))))) rfl (VW.exit (thenQ_exit (thenQ_exit ?_)))
      have h := Option.some.inj h
      subst h
      exact hx0 _ [(ob_2990, .cells ((bu_2757.map Pr.c).flatten ++ sl_2990))] rfl (Buf.own (n := 2) (l := bu_2757.map Pr.c) ob_2990 cap_2990 len_2990 sl_2990 (elemsOK_map Pr.c_ok _) (by simp [hl_2990]) hc_2990 hs_2990)
  · replace h := iteF h hc_2988
    refine VA.skip (i := 4) rfl rfl rfl rfl rfl (by kernel_rfl) (VA.skip (i := 5) rfl rfl rfl rfl rfl (by kernel_rfl) (VA.skip (i := 6) rfl rfl rfl rfl rfl (by kernel_rfl) (VA.skip (i := 7) rfl rfl rfl rfl rfl (by kernel_rfl) (VA.skip (i := 8) rfl rfl rfl rfl rfl (by kernel_rfl) (VA.skip (i := 9) rfl rfl rfl rfl rfl (by kernel_rfl) (VA.skip (i := 10) rfl rfl rfl rfl rfl (by kernel_rfl) (VA.skip (i := 11) rfl rfl rfl rfl rfl (by kernel_rfl) (VA.skip (i := 12) rfl rfl rfl rfl rfl (by kernel_rfl) (VA.skip (i := 13) rfl rfl rfl rfl rfl (by kernel_rfl) ?_)))))))))
    refine VA.skip (i := 14) rfl rfl rfl rfl rfl (by kernel_rfl) (VA.t (i := 15) (v := .bool false) rfl (t_pick (b := false) rfl rfl (fun h => by cases h) (fun _ => (fun _ _ => rfl))) (.inl rfl) (by kernel_rfl) (VA.done (by kernel_rfl) (thenQ_normal (VW.subK (.c 0 rfl (.c 1 rfl (.c 4 rfl (.c 11 rfl (.c 12 rfl (.c 54 rfl (.c 55 rfl (.c 56 rfl (.c 57 rfl (.c 58 rfl (.c 59 rfl (.c 60 rfl (.c 61 rfl (.c 62 rfl (.c 63 rfl (.c 64 rfl (.c 65 rfl .n))))))))))))))))) rfl (VW.condF rfl (VW.subK (.c 0 rfl (.c 1 rfl (.c 4 rfl (.c 11 rfl (.c 12 rfl .n))))) rfl (VW.exit (thenQ_exit (thenQ_exit ?_)))))))))
    have h := Option.some.inj h
    subst h
    exact hx0 _ bp0_2977 rfl hbp0_2977

theorem slices_partitionEqualCmpFunc_2int.l0_ok (a4 : Pr → Pr → Option Int) (a1 : Int) (a4_f : Nat) (a4_a a4_c : List VV) (a4_g : Seg) (a4_k : FnOK Try.prog a4_f) (a4_h : ∀ (y0 : Pr) (y1 : Pr) (z : Int), a4 y0 y1 = some z → VCalls Try.prog a4_f (a4_a ++ [.agg [.int .i64 y0.x0, .int .i64 y0.x1], .agg [.int .i64 y1.x0, .int .i64 y1.x1]] ++ a4_c) (hq [a4_g] []) (fun v H => .int .i64 z = v ∧ H = hq [a4_g] [])) {Q : Exit → Env → HH → Prop} :
    ∀ (bu_2757 : List Pr) (i_2759 : Int) (j_2760 : Int) (o : (List Pr × Int)), PL.slices_partitionEqualCmpFunc_2int.l0 a4 a1 bu_2757 i_2759 j_2760 = some o →
    ∀ (vp0_2758 : VV) (bp0_2758 : Seg) (hbp0_2758 : Buf 2 (bu_2757.map Pr.c) vp0_2758 bp0_2758) (hx0 : ∀ (bu_2882 : List Pr) (i_2884 : Int) (bp0_2883 : Seg), (bu_2882, i_2884) = o → Buf 2 (bu_2882.map Pr.c) vp0_2758 bp0_2883 → Q (.exit 0) ⟨[(11, .int .i64 i_2884)], []⟩ (hq ([a4_g, bp0_2883]) [])), VW Try.prog 90 (codeAt [1, 1, 1, 0, 0, 0] (bodyOf Try.f67)) (thenQ (VL Try.prog 90 (codeAt [1, 1, 1, 0, 0, 0] (bodyOf Try.f67)) Q) Q) ⟨[(0, vp0_2758), (1, .int .i64 a1), (4, .func (.func a4_f) a4_a a4_c), (11, .int .i64 i_2759), (12, .int .i64 j_2760)], []⟩ (hq ([bp0_2758, a4_g]) []) := by
  refine PL.slices_partitionEqualCmpFunc_2int.l0.partial_correctness a4 a1 (motive := fun bu_2757 i_2759 j_2760 o => ∀ (vp0_2758 : VV) (bp0_2758 : Seg) (hbp0_2758 : Buf 2 (bu_2757.map Pr.c) vp0_2758 bp0_2758) (hx0 : ∀ (bu_2882 : List Pr) (i_2884 : Int) (bp0_2883 : Seg), (bu_2882, i_2884) = o → Buf 2 (bu_2882.map Pr.c) vp0_2758 bp0_2883 → Q (.exit 0) ⟨[(11, .int .i64 i_2884)], []⟩ (hq ([a4_g, bp0_2883]) [])), VW Try.prog 90 (codeAt [1, 1, 1, 0, 0, 0] (bodyOf Try.f67)) (thenQ (VL Try.prog 90 (codeAt [1, 1, 1, 0, 0, 0] (bodyOf Try.f67)) Q) Q) ⟨[(0, vp0_2758), (1, .int .i64 a1), (4, .func (.func a4_f) a4_a a4_c), (11, .int .i64 i_2759), (12, .int .i64 j_2760)], []⟩ (hq ([bp0_2758, a4_g]) [])) ?_
  intro _ ih bu_2757 i_2759 j_2760 o h vp0_2758 bp0_2758 hbp0_2758 hx0
  refine VW.block (VW.seq (VW.block (VW.subK (.c 0 rfl (.c 1 rfl (.c 4 rfl (.c 11 rfl (.c 12 rfl .n))))) rfl ?_)))
  obtain ⟨o_2939, hx_2940, h⟩ := obind h
  refine VW.loopL (slices_partitionEqualCmpFunc_2int.l1_ok a4 a1 bu_2757 j_2760 a4_f a4_a a4_c a4_g a4_k a4_h _ _ hx_2940 vp0_2758 bp0_2758 hbp0_2758 ?_)
  · intro i_2931 bp0_2930 ho_ hbp0_2930
    subst ho_
    try dsimp only at h
    refine blockQ_hit (thenQ_normal (VW.seq (VW.block (VW.subK (.c 0 rfl (.c 1 rfl (.c 4 rfl (.c 11 rfl (.c 12 rfl .n))))) rfl ?_))))
    obtain ⟨o_2995, hx_2996, h⟩ := obind h
    refine VW.loopL (slices_partitionEqualCmpFunc_2int.l2_ok a4 a1 bu_2757 i_2931 a4_f a4_a a4_c a4_g a4_k a4_h _ _ hx_2996 vp0_2758 bp0_2930 hbp0_2930 ?_)
    · intro j_2987 bp0_2986 ho_ hbp0_2986
      subst ho_
      try dsimp only at h
      refine blockQ_hit (thenQ_normal (VW.seq (VW.seq (VW.region (VO.t (t_move rfl rfl) rfl rfl (VO.t (t_move rfl rfl) rfl rfl (VO.t (v := .bool (decide (i_2931 > j_2987))) (t_cmp rfl rfl rfl rfl rfl) rfl rfl (VO.nil (thenQ_normal ?_)))))))))
      refine VW.subK (.c 0 rfl (.c 1 rfl (.c 4 rfl (.c 11 rfl (.c 12 rfl (.c 70 rfl .n)))))) rfl ?_
      refine VW.cond (b := (decide (i_2931 > j_2987))) rfl (fun hc_2997 => ?_) (fun hc_2997 => ?_)
      · replace h := iteT h hc_2997
        refine VW.subK (.c 11 rfl .n) rfl (VW.exit (thenQ_exit (blockQ_miss rfl (thenQ_exit ?_))))
        have h := Option.some.inj h
        subst h
        exact hx0 _ _ bp0_2986 rfl hbp0_2986
      · replace h := iteF h hc_2997
        refine VW.skip (thenQ_normal (VW.subK (.c 0 rfl (.c 1 rfl (.c 4 rfl (.c 11 rfl (.c 12 rfl .n))))) rfl (VW.seq (VW.draw 16 mix rfl (VA.t (i := 0) rfl (t_move rfl rfl) (.inl rfl) (by kernel_rfl) (VA.t (i := 1) rfl (t_move rfl rfl) (.inl rfl) (by kernel_rfl) (VA.t (i := 2) rfl (t_move rfl rfl) (.inl rfl) (by kernel_rfl) (VA.t (i := 3) rfl (t_move rfl rfl) (.inl rfl) (by kernel_rfl) (VA.phase (g := 3) [4, 5, 6, 7, 8, 9, 10, 11, 12] 9 ?_)))))))))
        refine VP.take (i := 4) rfl (TOp.r (t_move rfl rfl)) (.inl rfl) (by kernel_rfl) (VP.take (i := 5) rfl (TOp.r (t_move rfl rfl)) (.inl rfl) (by kernel_rfl) ?_)
        obtain ⟨c_2998, hc_2998, h⟩ := obind h
        obtain ⟨ob_2999, cap_2999, len_2999, sl_2999, rfl, rfl, hE_2999, hl_2999, hc_2999, hs_2999⟩ := buf_at hbp0_2986 hc_2998
        refine VP.take (i := 6) (v := .ptr ob_2999 (j_2987.toNat * 2 + 0)) rfl (TOp.r (t_index_own rfl sl22 rfl rfl (getI_some hc_2998).1 (by rw [hl_2999]; exact getI_lt hc_2998) rfl)) (.inl rfl) (by kernel_rfl) (VP.take (i := 7) (v := .agg [.int .i64 c_2998.x0, .int .i64 c_2998.x1]) rfl (r_load_buf (n := 2) (f := 0) (j := 1) rfl sz49 rfl rfl hE_2999 (map_get (getI_some hc_2998).2 (Pr.c_eq c_2998)) (Nat.le_of_ble_eq_true rfl) (fun _ => ofCells_agg rfl)) (.inl rfl) (by kernel_rfl) (VP.take (i := 8) rfl (TOp.r (t_move rfl rfl)) (.inl rfl) (by kernel_rfl) (VP.take (i := 9) rfl (TOp.r (t_move rfl rfl)) (.inl rfl) (by kernel_rfl) ?_)))
        obtain ⟨c_3000, hc_3000, h⟩ := obind h
        refine VP.take (i := 10) (v := .ptr ob_2999 (i_2931.toNat * 2 + 0)) rfl (TOp.r (t_index_own rfl sl22 rfl rfl (getI_some hc_3000).1 (by rw [hl_2999]; exact getI_lt hc_3000) rfl)) (.inl rfl) (by kernel_rfl) (VP.take (i := 11) (v := .agg [.int .i64 c_3000.x0, .int .i64 c_3000.x1]) rfl (r_load_buf (n := 2) (f := 0) (j := 1) rfl sz49 rfl rfl hE_2999 (map_get (getI_some hc_3000).2 (Pr.c_eq c_3000)) (Nat.le_of_ble_eq_true rfl) (fun _ => ofCells_agg rfl)) (.inl rfl) (by kernel_rfl) (VP.take (i := 12) (v := .ptr ob_2999 (i_2931.toNat * 2 + 0)) rfl (TOp.r (t_index_own rfl sl22 rfl rfl (getI_some hc_3000).1 (by rw [hl_2999]; exact getI_lt hc_3000) rfl)) (.inl rfl) (by kernel_rfl) (VP.done (by kernel_rfl) (VA.w (i := 13) (fun v H' => .any = v ∧ H' = hq ([a4_g, [(ob_2999, .cells (((bu_2757.set i_2931.toNat c_2998).map Pr.c).flatten ++ sl_2999))]]) []) rfl (w_store_buf (n := 2) (f := 0) (j := 1) rfl sz49 rfl rfl rfl hE_2999 (map_get (getI_some hc_3000).2 (Pr.c_eq c_3000)) rfl rfl (Nat.le_of_ble_eq_true rfl) rfl (map_set (Pr.c_eq c_2998)) ⟨rfl, rfl⟩) (.inl rfl) (by kernel_rfl) rfl ?_))))
        rintro _ _ ⟨rfl, rfl⟩
        have hl_3002 : len_2999 = (bu_2757.set i_2931.toNat c_2998).length := by simp [hl_2999]
        obtain ⟨c_3003, hc_3003, h⟩ := obind h
        refine VA.t (i := 14) (v := .ptr ob_2999 (j_2987.toNat * 2 + 0)) rfl (t_index_own rfl sl22 rfl rfl (getI_some hc_3003).1 (by rw [hl_3002]; exact getI_lt hc_3003) rfl) (.inl rfl) (by kernel_rfl) (VA.w (i := 15) (fun v H' => .any = v ∧ H' = hq ([a4_g, [(ob_2999, .cells ((((bu_2757.set i_2931.toNat c_2998).set j_2987.toNat c_3000).map Pr.c).flatten ++ sl_2999))]]) []) rfl (w_store_buf (n := 2) (f := 0) (j := 1) rfl sz49 rfl rfl rfl (elemsOK_map Pr.c_ok _) (map_get (getI_some hc_3003).2 (Pr.c_eq c_3003)) rfl rfl (Nat.le_of_ble_eq_true rfl) rfl (map_set (Pr.c_eq c_3000)) ⟨rfl, rfl⟩) (.inl rfl) (by kernel_rfl) rfl ?_)
        rintro _ _ ⟨rfl, rfl⟩
        have hl_3005 : len_2999 = ((bu_2757.set i_2931.toNat c_2998).set j_2987.toNat c_3000).length := by simp [hl_3002]
        refine VA.done (by kernel_rfl) (thenQ_normal (VW.subK (.c 0 rfl (.c 1 rfl (.c 4 rfl (.c 11 rfl (.c 12 rfl .n))))) rfl (VW.seq (VW.region (VO.t (t_move rfl rfl) rfl rfl (VO.t (v := .int .i64 (w64 (i_2931 + 1))) (t_add rfl rfl (fun _ _ => rfl) rfl) rfl rfl (VO.t (v := .int .i64 (w64 (i_2931 + 1))) (t_assign rfl rfl) rfl rfl (VO.nil (thenQ_normal ?_)))))))))
        refine VW.subK (.c 0 rfl (.c 1 rfl (.c 4 rfl (.c 12 rfl (.c 11 rfl .n))))) rfl (VW.region (VO.t (t_move rfl rfl) rfl rfl (VO.t (v := .int .i64 (w64 (j_2987 - 1))) (t_sub rfl rfl (fun _ _ => rfl) rfl) rfl rfl (VO.t (v := .int .i64 (w64 (j_2987 - 1))) (t_assign rfl rfl) rfl rfl (VO.nil (blockQ_normal (thenQ_normal (VL.round ?_))))))))
        refine VW.subK (.c 0 rfl (.c 1 rfl (.c 4 rfl (.c 11 rfl (.c 12 rfl .n))))) rfl (VW.frontS 0 rfl (VW.frontS 1 rfl ?_))
        exact ih _ _ _ _ h (.own ob_2999 cap_2999 len_2999) [(ob_2999, .cells ((((bu_2757.set i_2931.toNat c_2998).set j_2987.toNat c_3000).map Pr.c).flatten ++ sl_2999))] (Buf.own (n := 2) (l := ((bu_2757.set i_2931.toNat c_2998).set j_2987.toNat c_3000).map Pr.c) ob_2999 cap_2999 len_2999 sl_2999 (elemsOK_map Pr.c_ok _) (by simp [hl_3005]) hc_2999 hs_2999) hx0

theorem slices_partitionEqualCmpFunc_2int_ok (a0 : List Pr) (a1 : Int) (a2 : Int) (a3 : Int) (a4 : Pr → Pr → Option Int) (r : Int × List Pr) (h : PL.slices_partitionEqualCmpFunc_2int a0 a1 a2 a3 a4 = some r) (v0 : VV) (b0 : Seg) (a4_f : Nat) (a4_a : List VV) (a4_c : List VV) (a4_g : Seg) (hB0 : Buf 2 (a0.map Pr.c) v0 b0) (a4_k : FnOK Try.prog a4_f) (a4_h : ∀ (y0 : Pr) (y1 : Pr) (z : Int), a4 y0 y1 = some z → VCalls Try.prog a4_f (a4_a ++ [.agg [.int .i64 y0.x0, .int .i64 y0.x1], .agg [.int .i64 y1.x0, .int .i64 y1.x1]] ++ a4_c) (hq [a4_g] []) (fun v H => .int .i64 z = v ∧ H = hq [a4_g] [])) :
    VCalls Try.prog 67 [v0, .int .i64 a1, .int .i64 a2, .int .i64 a3, .func (.func a4_f) a4_a a4_c] (hq [b0, a4_g] []) (fun v H => ∃ bk0, Buf 2 (r.2.map Pr.c) v0 bk0 ∧ .int .i64 r.1 = v ∧ H = hq [bk0, a4_g] []) := by
  unfold PL.slices_partitionEqualCmpFunc_2int at h
  refine VCalls.of_body 90 [10] Try.func67 rfl rfl rfl (Nat.le_of_ble_eq_true rfl) (VW.subK (.c 0 rfl (.c 1 rfl (.c 2 rfl (.c 3 rfl (.c 4 rfl .n))))) rfl (VW.seq (VW.region (VO.t (v := .int .i64 0) (t_assign rfl (fun _ _ => rfl)) rfl rfl (VO.nil (thenQ_normal (VW.subK (.c 0 rfl (.c 1 rfl (.c 2 rfl (.c 3 rfl (.c 4 rfl .n))))) rfl (VW.seq (VW.draw 16 mix rfl ?_)))))))))
  refine VA.t (i := 0) rfl (t_move rfl rfl) (.inl rfl) (by kernel_rfl) (VA.t (i := 1) rfl (t_move rfl rfl) (.inl rfl) (by kernel_rfl) (VA.t (i := 2) rfl (t_move rfl rfl) (.inl rfl) (by kernel_rfl) (VA.t (i := 3) rfl (t_move rfl rfl) (.inl rfl) (by kernel_rfl) (VA.phase (g := 3) [4, 5, 6, 7, 8, 9, 10, 11, 12] 9 (VP.take (i := 4) rfl (TOp.r (t_move rfl rfl)) (.inl rfl) (by kernel_rfl) (VP.take (i := 5) rfl (TOp.r (t_move rfl rfl)) (.inl rfl) (by kernel_rfl) ?_))))))
  obtain ⟨c_2254, hc_2254, h⟩ := obind h
  obtain ⟨ob_2255, cap_2255, len_2255, sl_2255, rfl, rfl, hE_2255, hl_2255, hc_2255, hs_2255⟩ := buf_at hB0 hc_2254
  refine VP.take (i := 6) (v := .ptr ob_2255 (a3.toNat * 2 + 0)) rfl (TOp.r (t_index_own rfl sl22 rfl rfl (getI_some hc_2254).1 (by rw [hl_2255]; exact getI_lt hc_2254) rfl)) (.inl rfl) (by kernel_rfl) (VP.take (i := 7) (v := .agg [.int .i64 c_2254.x0, .int .i64 c_2254.x1]) rfl (r_load_buf (n := 2) (f := 0) (j := 0) rfl sz49 rfl rfl hE_2255 (map_get (getI_some hc_2254).2 (Pr.c_eq c_2254)) (Nat.le_of_ble_eq_true rfl) (fun _ => ofCells_agg rfl)) (.inl rfl) (by kernel_rfl) (VP.take (i := 8) rfl (TOp.r (t_move rfl rfl)) (.inl rfl) (by kernel_rfl) (VP.take (i := 9) rfl (TOp.r (t_move rfl rfl)) (.inl rfl) (by kernel_rfl) ?_)))
  obtain ⟨c_2256, hc_2256, h⟩ := obind h
  refine VP.take (i := 10) (v := .ptr ob_2255 (a1.toNat * 2 + 0)) rfl (TOp.r (t_index_own rfl sl22 rfl rfl (getI_some hc_2256).1 (by rw [hl_2255]; exact getI_lt hc_2256) rfl)) (.inl rfl) (by kernel_rfl) (VP.take (i := 11) (v := .agg [.int .i64 c_2256.x0, .int .i64 c_2256.x1]) rfl (r_load_buf (n := 2) (f := 0) (j := 0) rfl sz49 rfl rfl hE_2255 (map_get (getI_some hc_2256).2 (Pr.c_eq c_2256)) (Nat.le_of_ble_eq_true rfl) (fun _ => ofCells_agg rfl)) (.inl rfl) (by kernel_rfl) (VP.take (i := 12) (v := .ptr ob_2255 (a1.toNat * 2 + 0)) rfl (TOp.r (t_index_own rfl sl22 rfl rfl (getI_some hc_2256).1 (by rw [hl_2255]; exact getI_lt hc_2256) rfl)) (.inl rfl) (by kernel_rfl) (VP.done (by kernel_rfl) (VA.w (i := 13) (fun v H' => .any = v ∧ H' = hq ([[(ob_2255, .cells (((a0.set a1.toNat c_2254).map Pr.c).flatten ++ sl_2255))], a4_g]) []) rfl (w_store_buf (n := 2) (f := 0) (j := 0) rfl sz49 rfl rfl rfl hE_2255 (map_get (getI_some hc_2256).2 (Pr.c_eq c_2256)) rfl rfl (Nat.le_of_ble_eq_true rfl) rfl (map_set (Pr.c_eq c_2254)) ⟨rfl, rfl⟩) (.inl rfl) (by kernel_rfl) rfl ?_))))
  rintro _ _ ⟨rfl, rfl⟩
  have hl_2258 : len_2255 = (a0.set a1.toNat c_2254).length := by simp [hl_2255]
  obtain ⟨c_2259, hc_2259, h⟩ := obind h
  refine VA.t (i := 14) (v := .ptr ob_2255 (a3.toNat * 2 + 0)) rfl (t_index_own rfl sl22 rfl rfl (getI_some hc_2259).1 (by rw [hl_2258]; exact getI_lt hc_2259) rfl) (.inl rfl) (by kernel_rfl) (VA.w (i := 15) (fun v H' => .any = v ∧ H' = hq ([[(ob_2255, .cells ((((a0.set a1.toNat c_2254).set a3.toNat c_2256).map Pr.c).flatten ++ sl_2255))], a4_g]) []) rfl (w_store_buf (n := 2) (f := 0) (j := 0) rfl sz49 rfl rfl rfl (elemsOK_map Pr.c_ok _) (map_get (getI_some hc_2259).2 (Pr.c_eq c_2259)) rfl rfl (Nat.le_of_ble_eq_true rfl) rfl (map_set (Pr.c_eq c_2256)) ⟨rfl, rfl⟩) (.inl rfl) (by kernel_rfl) rfl ?_)
  rintro _ _ ⟨rfl, rfl⟩
  have hl_2261 : len_2255 = ((a0.set a1.toNat c_2254).set a3.toNat c_2256).length := by simp [hl_2258]
  refine VA.done (by kernel_rfl) (thenQ_normal (VW.subK (.c 0 rfl (.c 1 rfl (.c 2 rfl (.c 4 rfl .n)))) rfl (VW.seq (VW.region (VO.t (t_move rfl rfl) rfl rfl (VO.t (v := .int .i64 (w64 (a1 + 1))) (t_add rfl rfl (fun _ _ => rfl) rfl) rfl rfl (VO.t (t_move rfl rfl) rfl rfl (VO.t (v := .int .i64 (w64 (a2 - 1))) (t_sub rfl rfl (fun _ _ => rfl) rfl) rfl rfl (VO.t (v := .int .i64 (w64 (a1 + 1))) (t_assign rfl rfl) rfl rfl ?_)))))))))
  refine VO.t (v := .int .i64 (w64 (a2 - 1))) (t_assign rfl rfl) rfl rfl (VO.nil (thenQ_normal (VW.subK (.c 0 rfl (.c 1 rfl (.c 4 rfl (.c 11 rfl (.c 12 rfl .n))))) rfl (VW.seq (VW.block (VW.subK (.c 0 rfl (.c 1 rfl (.c 4 rfl (.c 11 rfl (.c 12 rfl .n))))) rfl ?_))))))
  obtain ⟨o_3006, hx_3007, h⟩ := obind h
  refine VW.loopL (slices_partitionEqualCmpFunc_2int.l0_ok a4 a1 a4_f a4_a a4_c a4_g a4_k a4_h _ _ _ _ hx_3007 (.own ob_2255 cap_2255 len_2255) [(ob_2255, .cells ((((a0.set a1.toNat c_2254).set a3.toNat c_2256).map Pr.c).flatten ++ sl_2255))] (Buf.own (n := 2) (l := ((a0.set a1.toNat c_2254).set a3.toNat c_2256).map Pr.c) ob_2255 cap_2255 len_2255 sl_2255 (elemsOK_map Pr.c_ok _) (by simp [hl_2261]) hc_2255 hs_2255) ?_)
  · intro bu_2882 i_2884 bp0_2883 ho_ hbp0_2883
    subst ho_
    try dsimp only at h
    refine blockQ_hit (thenQ_normal (VW.seq (VW.region (VO.t (t_move rfl rfl) rfl rfl (VO.t (v := .int .i64 i_2884) (t_assign rfl rfl) rfl rfl (VO.nil (thenQ_normal (VW.subK (.c 10 rfl .n) rfl (VW.frontS 0 rfl ?_)))))))))
    refine VW.frontS 1 rfl (VW.ret ?_)
    have h := Option.some.inj h
    subst h
    exact ⟨.inr rfl, rfl, _, .int .i64 i_2884, hq [bp0_2883, a4_g] [], rfl, VLe.refl _, hq_sub (.cons_cons _ (.cons_cons _ .slnil)) .slnil, bp0_2883, hbp0_2883, rfl, rfl⟩

theorem slices_partitionCmpFunc_2int.l0_ok (a4 : Pr → Pr → Option Int) (a0 : List Pr) (a1 : Int) (a2 : Int) (a3 : Int) (c_3008 : Pr) (c_3010 : Pr) (a4_f : Nat) (a4_a a4_c : List VV) (a4_g : Seg) (a4_k : FnOK Try.prog a4_f) (a4_h : ∀ (y0 : Pr) (y1 : Pr) (z : Int), a4 y0 y1 = some z → VCalls Try.prog a4_f (a4_a ++ [.agg [.int .i64 y0.x0, .int .i64 y0.x1], .agg [.int .i64 y1.x0, .int .i64 y1.x1]] ++ a4_c) (hq [a4_g] []) (fun v H => .int .i64 z = v ∧ H = hq [a4_g] [])) {Q : Exit → Env → HH → Prop} :
    ∀ (i_3053 : Int) (o : Int), PL.slices_partitionCmpFunc_2int.l0 a4 a0 a1 a2 a3 c_3008 c_3010 i_3053 = some o →
    ∀ (vp0_3052 : VV) (bp0_3052 : Seg) (hbp0_3052 : Buf 2 (((a0.set a1.toNat c_3008).set a3.toNat c_3010).map Pr.c) vp0_3052 bp0_3052) (hx0 : ∀ (i_3062 : Int) (bp0_3061 : Seg), i_3062 = o → Buf 2 (((a0.set a1.toNat c_3008).set a3.toNat c_3010).map Pr.c) vp0_3052 bp0_3061 → Q (.exit 0) ⟨[(0, vp0_3052), (1, .int .i64 a1), (4, .func (.func a4_f) a4_a a4_c), (12, .int .i64 i_3062), (13, .int .i64 (w64 (a2 - 1)))], []⟩ (hq ([a4_g, bp0_3061]) [])), VW Try.prog 178 (codeAt [1, 1, 1, 0, 0, 0] (bodyOf Try.f68)) (thenQ (VL Try.prog 178 (codeAt [1, 1, 1, 0, 0, 0] (bodyOf Try.f68)) Q) Q) ⟨[(0, vp0_3052), (1, .int .i64 a1), (4, .func (.func a4_f) a4_a a4_c), (12, .int .i64 i_3053), (13, .int .i64 (w64 (a2 - 1)))], []⟩ (hq ([bp0_3052, a4_g]) []) := by
  refine PL.slices_partitionCmpFunc_2int.l0.partial_correctness a4 a0 a1 a2 a3 c_3008 c_3010 (motive := fun i_3053 o => ∀ (vp0_3052 : VV) (bp0_3052 : Seg) (hbp0_3052 : Buf 2 (((a0.set a1.toNat c_3008).set a3.toNat c_3010).map Pr.c) vp0_3052 bp0_3052) (hx0 : ∀ (i_3062 : Int) (bp0_3061 : Seg), i_3062 = o → Buf 2 (((a0.set a1.toNat c_3008).set a3.toNat c_3010).map Pr.c) vp0_3052 bp0_3061 → Q (.exit 0) ⟨[(0, vp0_3052), (1, .int .i64 a1), (4, .func (.func a4_f) a4_a a4_c), (12, .int .i64 i_3062), (13, .int .i64 (w64 (a2 - 1)))], []⟩ (hq ([a4_g, bp0_3061]) [])), VW Try.prog 178 (codeAt [1, 1, 1, 0, 0, 0] (bodyOf Try.f68)) (thenQ (VL Try.prog 178 (codeAt [1, 1, 1, 0, 0, 0] (bodyOf Try.f68)) Q) Q) ⟨[(0, vp0_3052), (1, .int .i64 a1), (4, .func (.func a4_f) a4_a a4_c), (12, .int .i64 i_3053), (13, .int .i64 (w64 (a2 - 1)))], []⟩ (hq ([bp0_3052, a4_g]) [])) ?_
  intro _ ih i_3053 o h vp0_3052 bp0_3052 hbp0_3052 hx0
  refine VW.seq (VW.seq (VW.draw 16 mix rfl (VA.t (i := 0) rfl (t_move rfl rfl) (.inl rfl) (by kernel_rfl) (VA.t (i := 1) rfl (t_move rfl rfl) (.inl rfl) (by kernel_rfl) (VA.t (i := 2) (v := .bool (decide (i_3053 ≤ (w64 (a2 - 1))))) rfl (t_cmp rfl rfl rfl rfl rfl) (.inl rfl) (by kernel_rfl) (VA.t (i := 3) rfl (t_move rfl rfl) (.inl rfl) (by kernel_rfl) ?_))))))
  refine VA.caseB (d := 35) (b := (decide (i_3053 ≤ (w64 (a2 - 1))))) rfl (fun hc_3063 => ?_) (fun hc_3063 => ?_)
  · replace h := iteT h hc_3063
    refine VA.phase (g := 3) [4, 5, 6, 7, 8, 9, 10, 11, 12] 9 (VP.take (i := 4) rfl (TOp.r (t_move rfl rfl)) (.inr ⟨_, _, _, rfl, rfl, rfl⟩) (by kernel_rfl) (VP.take (i := 5) rfl (TOp.r (t_move rfl rfl)) (.inr ⟨_, _, _, rfl, rfl, rfl⟩) (by kernel_rfl) (VP.take (i := 6) rfl (TOp.r (t_move rfl rfl)) (.inr ⟨_, _, _, rfl, rfl, rfl⟩) (by kernel_rfl) ?_)))
    obtain ⟨c_3064, hc_3064, h⟩ := obind h
    obtain ⟨ob_3065, cap_3065, len_3065, sl_3065, rfl, rfl, hE_3065, hl_3065, hc_3065, hs_3065⟩ := buf_at hbp0_3052 hc_3064
    refine VP.take (i := 7) (v := .ptr ob_3065 (i_3053.toNat * 2 + 0)) rfl (TOp.r (t_index_own rfl sl22 rfl rfl (getI_some hc_3064).1 (by rw [hl_3065]; exact getI_lt hc_3064) rfl)) (.inr ⟨_, _, _, rfl, rfl, rfl⟩) (by kernel_rfl) (VP.take (i := 8) (v := .agg [.int .i64 c_3064.x0, .int .i64 c_3064.x1]) rfl (r_load_buf (n := 2) (f := 0) (j := 0) rfl sz49 rfl rfl hE_3065 (map_get (getI_some hc_3064).2 (Pr.c_eq c_3064)) (Nat.le_of_ble_eq_true rfl) (fun _ => ofCells_agg rfl)) (.inr ⟨_, _, _, rfl, rfl, rfl⟩) (by kernel_rfl) (VP.take (i := 9) rfl (TOp.r (t_move rfl rfl)) (.inr ⟨_, _, _, rfl, rfl, rfl⟩) (by kernel_rfl) (VP.take (i := 10) rfl (TOp.r (t_move rfl rfl)) (.inr ⟨_, _, _, rfl, rfl, rfl⟩) (by kernel_rfl) ?_)))
    obtain ⟨c_3066, hc_3066, h⟩ := obind h
    refine VP.take (i := 11) (v := .ptr ob_3065 (a1.toNat * 2 + 0)) rfl (TOp.r (t_index_own rfl sl22 rfl rfl (getI_some hc_3066).1 (by rw [hl_3065]; exact getI_lt hc_3066) rfl)) (.inr ⟨_, _, _, rfl, rfl, rfl⟩) (by kernel_rfl) (VP.take (i := 12) (v := .agg [.int .i64 c_3066.x0, .int .i64 c_3066.x1]) rfl (r_load_buf (n := 2) (f := 0) (j := 0) rfl sz49 rfl rfl hE_3065 (map_get (getI_some hc_3066).2 (Pr.c_eq c_3066)) (Nat.le_of_ble_eq_true rfl) (fun _ => ofCells_agg rfl)) (.inr ⟨_, _, _, rfl, rfl, rfl⟩) (by kernel_rfl) (VP.done (by kernel_rfl) (VA.frontS 1 rfl ?_)))
    obtain ⟨rv_3067, hx_3068, h⟩ := obind h
    refine VA.w (i := 13) (fun v H' => .int .i64 rv_3067 = v ∧ H' = hq ([a4_g, [(ob_3065, .cells ((((a0.set a1.toNat c_3008).set a3.toNat c_3010).map Pr.c).flatten ++ sl_3065))]]) []) rfl (w_call_q (sa := [a4_g]) (sg := [[(ob_3065, .cells ((((a0.set a1.toNat c_3008).set a3.toNat c_3010).map Pr.c).flatten ++ sl_3065))]]) (tks := []) rfl a4_k rfl ⟨_, _, rfl, rfl, _, _, rfl, rfl, rfl⟩ (a4_h _ _ _ hx_3068) (by rintro v H' ⟨rfl, rfl⟩; exact ⟨[a4_g], rfl, rfl, rfl⟩)) (.inr ⟨_, _, _, rfl, rfl, rfl⟩) (by kernel_rfl) rfl ?_
    rintro _ _ ⟨rfl, rfl⟩
    refine VA.t (i := 14) (v := .bool (decide (rv_3067 < 0))) rfl (t_cmp rfl rfl rfl (fun _ _ => rfl) rfl) (.inr ⟨_, _, _, rfl, rfl, rfl⟩) (by kernel_rfl) (VA.t (i := 15) (v := .bool (decide (rv_3067 < 0))) rfl (t_pick (b := true) rfl rfl (fun _ => rfl) (fun h => by cases h)) (.inl rfl) (by kernel_rfl) (VA.done (by kernel_rfl) (thenQ_normal (VW.subK (.c 0 rfl (.c 1 rfl (.c 4 rfl (.c 12 rfl (.c 13 rfl (.c 36 rfl (.c 37 rfl (.c 38 rfl (.c 39 rfl (.c 40 rfl (.c 41 rfl (.c 42 rfl (.c 43 rfl (.c 44 rfl (.c 45 rfl (.c 46 rfl (.c 47 rfl .n))))))))))))))))) rfl ?_))))
    refine VW.cond (b := (decide (rv_3067 < 0))) rfl (fun hc_3069 => ?_) (fun hc_3069 => ?_)
    · replace h := iteT h hc_3069
      refine VW.skip (thenQ_normal (VW.subK (.c 0 rfl (.c 1 rfl (.c 4 rfl (.c 12 rfl (.c 13 rfl (.c 36 rfl (.c 37 rfl (.c 38 rfl (.c 39 rfl (.c 40 rfl (.c 41 rfl (.c 42 rfl (.c 43 rfl (.c 44 rfl (.c 45 rfl (.c 46 rfl .n)))))))))))))))) rfl (VW.block (VW.region (VO.t (t_move rfl rfl) rfl rfl (VO.t (v := .int .i64 (w64 (i_3053 + 1))) (t_add rfl rfl (fun _ _ => rfl) rfl) rfl rfl (VO.t (v := .int .i64 (w64 (i_3053 + 1))) (t_assign rfl rfl) rfl rfl (VO.nil (blockQ_normal ?_)))))))))
      refine thenQ_normal (VL.round ?_)
      refine VW.subK (.c 0 rfl (.c 1 rfl (.c 4 rfl (.c 12 rfl (.c 13 rfl .n))))) rfl (VW.frontS 0 rfl (VW.frontS 1 rfl ?_))
      exact ih _ _ h (.own ob_3065 cap_3065 len_3065) [(ob_3065, .cells ((((a0.set a1.toNat c_3008).set a3.toNat c_3010).map Pr.c).flatten ++ sl_3065))] (Buf.own (n := 2) (l := ((a0.set a1.toNat c_3008).set a3.toNat c_3010).map Pr.c) ob_3065 cap_3065 len_3065 sl_3065 (elemsOK_map Pr.c_ok _) (by simp [hl_3065]) hc_3065 hs_3065) hx0
    · replace h := iteF h hc_3069
      refine VW.subK (.c 0 rfl (.c 1 rfl (.c 4 rfl (.c 12 rfl (.c 13 rfl .n))))) rfl (VW.exit (thenQ_exit (thenQ_exit ?_)))
      have h := Option.some.inj h
      subst h
      exact hx0 _ [(ob_3065, .cells ((((a0.set a1.toNat c_3008).set a3.toNat c_3010).map Pr.c).flatten ++ sl_3065))] rfl (Buf.own (n := 2) (l := ((a0.set a1.toNat c_3008).set a3.toNat c_3010).map Pr.c) ob_3065 cap_3065 len_3065 sl_3065 (elemsOK_map Pr.c_ok _) (by simp [hl_3065]) hc_3065 hs_3065)
  · replace h := iteF h hc_3063
    refine VA.skip (i := 4) rfl rfl rfl rfl rfl (by kernel_rfl) (VA.skip (i := 5) rfl rfl rfl rfl rfl (by kernel_rfl) (VA.skip (i := 6) rfl rfl rfl rfl rfl (by kernel_rfl) (VA.skip (i := 7) rfl rfl rfl rfl rfl (by kernel_rfl) (VA.skip (i := 8) rfl rfl rfl rfl rfl (by kernel_rfl) (VA.skip (i := 9) rfl rfl rfl rfl rfl (by kernel_rfl) (VA.skip (i := 10) rfl rfl rfl rfl rfl (by kernel_rfl) (VA.skip (i := 11) rfl rfl rfl rfl rfl (by kernel_rfl) (VA.skip (i := 12) rfl rfl rfl rfl rfl (by kernel_rfl) (VA.skip (i := 13) rfl rfl rfl rfl rfl (by kernel_rfl) ?_)))))))))
    refine VA.skip (i := 14) rfl rfl rfl rfl rfl (by kernel_rfl) (VA.t (i := 15) (v := .bool false) rfl (t_pick (b := false) rfl rfl (fun h => by cases h) (fun _ => (fun _ _ => rfl))) (.inl rfl) (by kernel_rfl) (VA.done (by kernel_rfl) (thenQ_normal (VW.subK (.c 0 rfl (.c 1 rfl (.c 4 rfl (.c 12 rfl (.c 13 rfl (.c 36 rfl (.c 37 rfl (.c 38 rfl (.c 39 rfl (.c 40 rfl (.c 41 rfl (.c 42 rfl (.c 43 rfl (.c 44 rfl (.c 45 rfl (.c 46 rfl (.c 47 rfl .n))))))))))))))))) rfl (VW.condF rfl (VW.subK (.c 0 rfl (.c 1 rfl (.c 4 rfl (.c 12 rfl (.c 13 rfl .n))))) rfl (VW.frontS 0 rfl (VW.frontS 1 rfl (VW.exit ?_)))))))))
    refine thenQ_exit (thenQ_exit ?_)
    have h := Option.some.inj h
    subst h
    exact hx0 _ bp0_3052 rfl hbp0_3052

theorem slices_partitionCmpFunc_2int.l1_ok (a4 : Pr → Pr → Option Int) (a0 : List Pr) (a1 : Int) (a3 : Int) (c_3008 : Pr) (c_3010 : Pr) (i_3062 : Int) (a4_f : Nat) (a4_a a4_c : List VV) (a4_g : Seg) (a4_k : FnOK Try.prog a4_f) (a4_h : ∀ (y0 : Pr) (y1 : Pr) (z : Int), a4 y0 y1 = some z → VCalls Try.prog a4_f (a4_a ++ [.agg [.int .i64 y0.x0, .int .i64 y0.x1], .agg [.int .i64 y1.x0, .int .i64 y1.x1]] ++ a4_c) (hq [a4_g] []) (fun v H => .int .i64 z = v ∧ H = hq [a4_g] [])) {Q : Exit → Env → HH → Prop} :
    ∀ (j_3109 : Int) (o : Int), PL.slices_partitionCmpFunc_2int.l1 a4 a0 a1 a3 c_3008 c_3010 i_3062 j_3109 = some o →
    ∀ (vp0_3108 : VV) (bp0_3108 : Seg) (hbp0_3108 : Buf 2 (((a0.set a1.toNat c_3008).set a3.toNat c_3010).map Pr.c) vp0_3108 bp0_3108) (hx0 : ∀ (j_3118 : Int) (bp0_3117 : Seg), j_3118 = o → Buf 2 (((a0.set a1.toNat c_3008).set a3.toNat c_3010).map Pr.c) vp0_3108 bp0_3117 → Q (.exit 2) ⟨[(0, vp0_3108), (1, .int .i64 a1), (4, .func (.func a4_f) a4_a a4_c), (12, .int .i64 i_3062), (13, .int .i64 j_3118)], []⟩ (hq ([a4_g, bp0_3117]) [])), VW Try.prog 178 (codeAt [1, 1, 1, 1, 0, 0, 0] (bodyOf Try.f68)) (thenQ (VL Try.prog 178 (codeAt [1, 1, 1, 1, 0, 0, 0] (bodyOf Try.f68)) Q) Q) ⟨[(0, vp0_3108), (1, .int .i64 a1), (4, .func (.func a4_f) a4_a a4_c), (12, .int .i64 i_3062), (13, .int .i64 j_3109)], []⟩ (hq ([a4_g, bp0_3108]) []) := by
  refine PL.slices_partitionCmpFunc_2int.l1.partial_correctness a4 a0 a1 a3 c_3008 c_3010 i_3062 (motive := fun j_3109 o => ∀ (vp0_3108 : VV) (bp0_3108 : Seg) (hbp0_3108 : Buf 2 (((a0.set a1.toNat c_3008).set a3.toNat c_3010).map Pr.c) vp0_3108 bp0_3108) (hx0 : ∀ (j_3118 : Int) (bp0_3117 : Seg), j_3118 = o → Buf 2 (((a0.set a1.toNat c_3008).set a3.toNat c_3010).map Pr.c) vp0_3108 bp0_3117 → Q (.exit 2) ⟨[(0, vp0_3108), (1, .int .i64 a1), (4, .func (.func a4_f) a4_a a4_c), (12, .int .i64 i_3062), (13, .int .i64 j_3118)], []⟩ (hq ([a4_g, bp0_3117]) [])), VW Try.prog 178 (codeAt [1, 1, 1, 1, 0, 0, 0] (bodyOf Try.f68)) (thenQ (VL Try.prog 178 (codeAt [1, 1, 1, 1, 0, 0, 0] (bodyOf Try.f68)) Q) Q) ⟨[(0, vp0_3108), (1, .int .i64 a1), (4, .func (.func a4_f) a4_a a4_c), (12, .int .i64 i_3062), (13, .int .i64 j_3109)], []⟩ (hq ([a4_g, bp0_3108]) [])) ?_
  intro _ ih j_3109 o h vp0_3108 bp0_3108 hbp0_3108 hx0
  refine VW.seq (VW.seq (VW.draw 17 mix rfl (VA.t (i := 0) rfl (t_move rfl rfl) (.inl rfl) (by kernel_rfl) (VA.t (i := 1) rfl (t_move rfl rfl) (.inl rfl) (by kernel_rfl) (VA.t (i := 2) (v := .bool (decide (i_3062 ≤ j_3109))) rfl (t_cmp rfl rfl rfl rfl rfl) (.inl rfl) (by kernel_rfl) (VA.t (i := 3) rfl (t_move rfl rfl) (.inl rfl) (by kernel_rfl) ?_))))))
  refine VA.caseB (d := 53) (b := (decide (i_3062 ≤ j_3109))) rfl (fun hc_3119 => ?_) (fun hc_3119 => ?_)
  · replace h := iteT h hc_3119
    refine VA.phase (g := 4) [4, 5, 6, 7, 8, 9, 10, 11, 12] 9 (VP.take (i := 4) rfl (TOp.r (t_move rfl rfl)) (.inr ⟨_, _, _, rfl, rfl, rfl⟩) (by kernel_rfl) (VP.take (i := 5) rfl (TOp.r (t_move rfl rfl)) (.inr ⟨_, _, _, rfl, rfl, rfl⟩) (by kernel_rfl) (VP.take (i := 6) rfl (TOp.r (t_move rfl rfl)) (.inr ⟨_, _, _, rfl, rfl, rfl⟩) (by kernel_rfl) ?_)))
    obtain ⟨c_3120, hc_3120, h⟩ := obind h
    obtain ⟨ob_3121, cap_3121, len_3121, sl_3121, rfl, rfl, hE_3121, hl_3121, hc_3121, hs_3121⟩ := buf_at hbp0_3108 hc_3120
    refine VP.take (i := 7) (v := .ptr ob_3121 (j_3109.toNat * 2 + 0)) rfl (TOp.r (t_index_own rfl sl22 rfl rfl (getI_some hc_3120).1 (by rw [hl_3121]; exact getI_lt hc_3120) rfl)) (.inr ⟨_, _, _, rfl, rfl, rfl⟩) (by kernel_rfl) (VP.take (i := 8) (v := .agg [.int .i64 c_3120.x0, .int .i64 c_3120.x1]) rfl (r_load_buf (n := 2) (f := 0) (j := 1) rfl sz49 rfl rfl hE_3121 (map_get (getI_some hc_3120).2 (Pr.c_eq c_3120)) (Nat.le_of_ble_eq_true rfl) (fun _ => ofCells_agg rfl)) (.inr ⟨_, _, _, rfl, rfl, rfl⟩) (by kernel_rfl) (VP.take (i := 9) rfl (TOp.r (t_move rfl rfl)) (.inr ⟨_, _, _, rfl, rfl, rfl⟩) (by kernel_rfl) (VP.take (i := 10) rfl (TOp.r (t_move rfl rfl)) (.inr ⟨_, _, _, rfl, rfl, rfl⟩) (by kernel_rfl) ?_)))
    obtain ⟨c_3122, hc_3122, h⟩ := obind h
    refine VP.take (i := 11) (v := .ptr ob_3121 (a1.toNat * 2 + 0)) rfl (TOp.r (t_index_own rfl sl22 rfl rfl (getI_some hc_3122).1 (by rw [hl_3121]; exact getI_lt hc_3122) rfl)) (.inr ⟨_, _, _, rfl, rfl, rfl⟩) (by kernel_rfl) (VP.take (i := 12) (v := .agg [.int .i64 c_3122.x0, .int .i64 c_3122.x1]) rfl (r_load_buf (n := 2) (f := 0) (j := 1) rfl sz49 rfl rfl hE_3121 (map_get (getI_some hc_3122).2 (Pr.c_eq c_3122)) (Nat.le_of_ble_eq_true rfl) (fun _ => ofCells_agg rfl)) (.inr ⟨_, _, _, rfl, rfl, rfl⟩) (by kernel_rfl) (VP.done (by kernel_rfl) ?_))
    obtain ⟨rv_3123, hx_3124, h⟩ := obind h
    refine VA.w (i := 13) (fun v H' => .int .i64 rv_3123 = v ∧ H' = hq ([a4_g, [(ob_3121, .cells ((((a0.set a1.toNat c_3008).set a3.toNat c_3010).map Pr.c).flatten ++ sl_3121))]]) []) rfl (w_call_q (sa := [a4_g]) (sg := [[(ob_3121, .cells ((((a0.set a1.toNat c_3008).set a3.toNat c_3010).map Pr.c).flatten ++ sl_3121))]]) (tks := []) rfl a4_k rfl ⟨_, _, rfl, rfl, _, _, rfl, rfl, rfl⟩ (a4_h _ _ _ hx_3124) (by rintro v H' ⟨rfl, rfl⟩; exact ⟨[a4_g], rfl, rfl, rfl⟩)) (.inr ⟨_, _, _, rfl, rfl, rfl⟩) (by kernel_rfl) rfl ?_
    rintro _ _ ⟨rfl, rfl⟩
    refine VA.t (i := 14) (v := .bool (decide (rv_3123 < 0))) rfl (t_cmp rfl rfl rfl (fun _ _ => rfl) rfl) (.inr ⟨_, _, _, rfl, rfl, rfl⟩) (by kernel_rfl) (VA.t (i := 15) (v := .bool (!(decide (rv_3123 < 0)))) rfl (t_not rfl rfl rfl) (.inr ⟨_, _, _, rfl, rfl, rfl⟩) (by kernel_rfl) (VA.t (i := 16) (v := .bool (!(decide (rv_3123 < 0)))) rfl (t_pick (b := true) rfl rfl (fun _ => rfl) (fun h => by cases h)) (.inl rfl) (by kernel_rfl) (VA.done (by kernel_rfl) (thenQ_normal (VW.subK (.c 0 rfl (.c 1 rfl (.c 4 rfl (.c 12 rfl (.c 13 rfl (.c 54 rfl (.c 55 rfl (.c 56 rfl (.c 57 rfl (.c 58 rfl (.c 59 rfl (.c 60 rfl (.c 61 rfl (.c 62 rfl (.c 63 rfl (.c 64 rfl (.c 65 rfl (.c 66 rfl .n)))))))))))))))))) rfl ?_)))))
    refine VW.cond (b := (!(decide (rv_3123 < 0)))) rfl (fun hc_3125 => ?_) (fun hc_3125 => ?_)
    · replace h := iteT h hc_3125
      refine VW.skip (thenQ_normal (VW.subK (.c 0 rfl (.c 1 rfl (.c 4 rfl (.c 12 rfl (.c 13 rfl (.c 54 rfl (.c 55 rfl (.c 56 rfl (.c 57 rfl (.c 58 rfl (.c 59 rfl (.c 60 rfl (.c 61 rfl (.c 62 rfl (.c 63 rfl (.c 64 rfl (.c 65 rfl .n))))))))))))))))) rfl (VW.block (VW.region (VO.t (t_move rfl rfl) rfl rfl (VO.t (v := .int .i64 (w64 (j_3109 - 1))) (t_sub rfl rfl (fun _ _ => rfl) rfl) rfl rfl (VO.t (v := .int .i64 (w64 (j_3109 - 1))) (t_assign rfl rfl) rfl rfl (VO.nil (blockQ_normal ?_)))))))))
      refine thenQ_normal (VL.round ?_)
      refine VW.subK (.c 0 rfl (.c 1 rfl (.c 4 rfl (.c 12 rfl (.c 13 rfl .n))))) rfl ?_
      exact ih _ _ h (.own ob_3121 cap_3121 len_3121) [(ob_3121, .cells ((((a0.set a1.toNat c_3008).set a3.toNat c_3010).map Pr.c).flatten ++ sl_3121))] (Buf.own (n := 2) (l := ((a0.set a1.toNat c_3008).set a3.toNat c_3010).map Pr.c) ob_3121 cap_3121 len_3121 sl_3121 (elemsOK_map Pr.c_ok _) (by simp [hl_3121]) hc_3121 hs_3121) hx0
    · replace h := iteF h hc_3125
      refine VW.subK (.c 0 rfl (.c 1 rfl (.c 4 rfl (.c 12 rfl (.c 13 rfl .n))))) rfl (VW.exit (thenQ_exit (thenQ_exit ?_)))
      have h := Option.some.inj h
      subst h
      exact hx0 _ [(ob_3121, .cells ((((a0.set a1.toNat c_3008).set a3.toNat c_3010).map Pr.c).flatten ++ sl_3121))] rfl (Buf.own (n := 2) (l := ((a0.set a1.toNat c_3008).set a3.toNat c_3010).map Pr.c) ob_3121 cap_3121 len_3121 sl_3121 (elemsOK_map Pr.c_ok _) (by simp [hl_3121]) hc_3121 hs_3121)
  · replace h := iteF h hc_3119
    refine VA.skip (i := 4) rfl rfl rfl rfl rfl (by kernel_rfl) (VA.skip (i := 5) rfl rfl rfl rfl rfl (by kernel_rfl) (VA.skip (i := 6) rfl rfl rfl rfl rfl (by kernel_rfl) (VA.skip (i := 7) rfl rfl rfl rfl rfl (by kernel_rfl) (VA.skip (i := 8) rfl rfl rfl rfl rfl (by kernel_rfl) (VA.skip (i := 9) rfl rfl rfl rfl rfl (by kernel_rfl) (VA.skip (i := 10) rfl rfl rfl rfl rfl (by kernel_rfl) (VA.skip (i := 11) rfl rfl rfl rfl rfl (by kernel_rfl) (VA.skip (i := 12) rfl rfl rfl rfl rfl (by kernel_rfl) (VA.skip (i := 13) rfl rfl rfl rfl rfl (by kernel_rfl) ?_)))))))))
    refine VA.skip (i := 14) rfl rfl rfl rfl rfl (by kernel_rfl) (VA.skip (i := 15) rfl rfl rfl rfl rfl (by kernel_rfl) (VA.t (i := 16) (v := .bool false) rfl (t_pick (b := false) rfl rfl (fun h => by cases h) (fun _ => (fun _ _ => rfl))) (.inl rfl) (by kernel_rfl) (VA.done (by kernel_rfl) (thenQ_normal (VW.subK (.c 0 rfl (.c 1 rfl (.c 4 rfl (.c 12 rfl (.c 13 rfl (.c 54 rfl (.c 55 rfl (.c 56 rfl (.c 57 rfl (.c 58 rfl (.c 59 rfl (.c 60 rfl (.c 61 rfl (.c 62 rfl (.c 63 rfl (.c 64 rfl (.c 65 rfl (.c 66 rfl .n)))))))))))))))))) rfl (VW.condF rfl (VW.subK (.c 0 rfl (.c 1 rfl (.c 4 rfl (.c 12 rfl (.c 13 rfl .n))))) rfl (VW.exit (thenQ_exit ?_)))))))))
    refine thenQ_exit ?_
    have h := Option.some.inj h
    subst h
    exact hx0 _ bp0_3108 rfl hbp0_3108

theorem slices_partitionCmpFunc_2int.l3_ok (a4 : Pr → Pr → Option Int) (a1 : Int) (bu_3640 : List Pr) (j_3643 : Int) (a4_f : Nat) (a4_a a4_c : List VV) (a4_g : Seg) (a4_k : FnOK Try.prog a4_f) (a4_h : ∀ (y0 : Pr) (y1 : Pr) (z : Int), a4 y0 y1 = some z → VCalls Try.prog a4_f (a4_a ++ [.agg [.int .i64 y0.x0, .int .i64 y0.x1], .agg [.int .i64 y1.x0, .int .i64 y1.x1]] ++ a4_c) (hq [a4_g] []) (fun v H => .int .i64 z = v ∧ H = hq [a4_g] [])) {Q : Exit → Env → HH → Prop} :
    ∀ (i_3805 : Int) (o : Int), PL.slices_partitionCmpFunc_2int.l3 a4 a1 bu_3640 j_3643 i_3805 = some o →
    ∀ (vp0_3804 : VV) (bp0_3804 : Seg) (hbp0_3804 : Buf 2 (bu_3640.map Pr.c) vp0_3804 bp0_3804) (hx0 : ∀ (i_3814 : Int) (bp0_3813 : Seg), i_3814 = o → Buf 2 (bu_3640.map Pr.c) vp0_3804 bp0_3813 → Q (.exit 6) ⟨[(0, vp0_3804), (1, .int .i64 a1), (4, .func (.func a4_f) a4_a a4_c), (12, .int .i64 i_3814), (13, .int .i64 j_3643)], []⟩ (hq ([a4_g, bp0_3813]) [])), VW Try.prog 178 (codeAt [1, 1, 1, 1, 1, 1, 1, 1, 1, 0, 0, 0, 0, 0, 0, 0] (bodyOf Try.f68)) (thenQ (VL Try.prog 178 (codeAt [1, 1, 1, 1, 1, 1, 1, 1, 1, 0, 0, 0, 0, 0, 0, 0] (bodyOf Try.f68)) Q) Q) ⟨[(0, vp0_3804), (1, .int .i64 a1), (4, .func (.func a4_f) a4_a a4_c), (12, .int .i64 i_3805), (13, .int .i64 j_3643)], []⟩ (hq ([a4_g, bp0_3804]) []) := by
  refine PL.slices_partitionCmpFunc_2int.l3.partial_correctness a4 a1 bu_3640 j_3643 (motive := fun i_3805 o => ∀ (vp0_3804 : VV) (bp0_3804 : Seg) (hbp0_3804 : Buf 2 (bu_3640.map Pr.c) vp0_3804 bp0_3804) (hx0 : ∀ (i_3814 : Int) (bp0_3813 : Seg), i_3814 = o → Buf 2 (bu_3640.map Pr.c) vp0_3804 bp0_3813 → Q (.exit 6) ⟨[(0, vp0_3804), (1, .int .i64 a1), (4, .func (.func a4_f) a4_a a4_c), (12, .int .i64 i_3814), (13, .int .i64 j_3643)], []⟩ (hq ([a4_g, bp0_3813]) [])), VW Try.prog 178 (codeAt [1, 1, 1, 1, 1, 1, 1, 1, 1, 0, 0, 0, 0, 0, 0, 0] (bodyOf Try.f68)) (thenQ (VL Try.prog 178 (codeAt [1, 1, 1, 1, 1, 1, 1, 1, 1, 0, 0, 0, 0, 0, 0, 0] (bodyOf Try.f68)) Q) Q) ⟨[(0, vp0_3804), (1, .int .i64 a1), (4, .func (.func a4_f) a4_a a4_c), (12, .int .i64 i_3805), (13, .int .i64 j_3643)], []⟩ (hq ([a4_g, bp0_3804]) [])) ?_
  intro _ ih i_3805 o h vp0_3804 bp0_3804 hbp0_3804 hx0
  refine VW.seq (VW.seq (VW.draw 16 mix rfl (VA.t (i := 0) rfl (t_move rfl rfl) (.inl rfl) (by kernel_rfl) (VA.t (i := 1) rfl (t_move rfl rfl) (.inl rfl) (by kernel_rfl) (VA.t (i := 2) (v := .bool (decide (i_3805 ≤ j_3643))) rfl (t_cmp rfl rfl rfl rfl rfl) (.inl rfl) (by kernel_rfl) (VA.t (i := 3) rfl (t_move rfl rfl) (.inl rfl) (by kernel_rfl) ?_))))))
  refine VA.caseB (d := 108) (b := (decide (i_3805 ≤ j_3643))) rfl (fun hc_3815 => ?_) (fun hc_3815 => ?_)
  · replace h := iteT h hc_3815
    refine VA.phase (g := 3) [4, 5, 6, 7, 8, 9, 10, 11, 12] 9 (VP.take (i := 4) rfl (TOp.r (t_move rfl rfl)) (.inr ⟨_, _, _, rfl, rfl, rfl⟩) (by kernel_rfl) (VP.take (i := 5) rfl (TOp.r (t_move rfl rfl)) (.inr ⟨_, _, _, rfl, rfl, rfl⟩) (by kernel_rfl) (VP.take (i := 6) rfl (TOp.r (t_move rfl rfl)) (.inr ⟨_, _, _, rfl, rfl, rfl⟩) (by kernel_rfl) ?_)))
    obtain ⟨c_3816, hc_3816, h⟩ := obind h
    obtain ⟨ob_3817, cap_3817, len_3817, sl_3817, rfl, rfl, hE_3817, hl_3817, hc_3817, hs_3817⟩ := buf_at hbp0_3804 hc_3816
    refine VP.take (i := 7) (v := .ptr ob_3817 (i_3805.toNat * 2 + 0)) rfl (TOp.r (t_index_own rfl sl22 rfl rfl (getI_some hc_3816).1 (by rw [hl_3817]; exact getI_lt hc_3816) rfl)) (.inr ⟨_, _, _, rfl, rfl, rfl⟩) (by kernel_rfl) (VP.take (i := 8) (v := .agg [.int .i64 c_3816.x0, .int .i64 c_3816.x1]) rfl (r_load_buf (n := 2) (f := 0) (j := 1) rfl sz49 rfl rfl hE_3817 (map_get (getI_some hc_3816).2 (Pr.c_eq c_3816)) (Nat.le_of_ble_eq_true rfl) (fun _ => ofCells_agg rfl)) (.inr ⟨_, _, _, rfl, rfl, rfl⟩) (by kernel_rfl) (VP.take (i := 9) rfl (TOp.r (t_move rfl rfl)) (.inr ⟨_, _, _, rfl, rfl, rfl⟩) (by kernel_rfl) (VP.take (i := 10) rfl (TOp.r (t_move rfl rfl)) (.inr ⟨_, _, _, rfl, rfl, rfl⟩) (by kernel_rfl) ?_)))
    obtain ⟨c_3818, hc_3818, h⟩ := obind h
    refine VP.take (i := 11) (v := .ptr ob_3817 (a1.toNat * 2 + 0)) rfl (TOp.r (t_index_own rfl sl22 rfl rfl (getI_some hc_3818).1 (by rw [hl_3817]; exact getI_lt hc_3818) rfl)) (.inr ⟨_, _, _, rfl, rfl, rfl⟩) (by kernel_rfl) (VP.take (i := 12) (v := .agg [.int .i64 c_3818.x0, .int .i64 c_3818.x1]) rfl (r_load_buf (n := 2) (f := 0) (j := 1) rfl sz49 rfl rfl hE_3817 (map_get (getI_some hc_3818).2 (Pr.c_eq c_3818)) (Nat.le_of_ble_eq_true rfl) (fun _ => ofCells_agg rfl)) (.inr ⟨_, _, _, rfl, rfl, rfl⟩) (by kernel_rfl) (VP.done (by kernel_rfl) ?_))
    obtain ⟨rv_3819, hx_3820, h⟩ := obind h
    refine VA.w (i := 13) (fun v H' => .int .i64 rv_3819 = v ∧ H' = hq ([a4_g, [(ob_3817, .cells ((bu_3640.map Pr.c).flatten ++ sl_3817))]]) []) rfl (w_call_q (sa := [a4_g]) (sg := [[(ob_3817, .cells ((bu_3640.map Pr.c).flatten ++ sl_3817))]]) (tks := []) rfl a4_k rfl ⟨_, _, rfl, rfl, _, _, rfl, rfl, rfl⟩ (a4_h _ _ _ hx_3820) (by rintro v H' ⟨rfl, rfl⟩; exact ⟨[a4_g], rfl, rfl, rfl⟩)) (.inr ⟨_, _, _, rfl, rfl, rfl⟩) (by kernel_rfl) rfl ?_
    rintro _ _ ⟨rfl, rfl⟩
    refine VA.t (i := 14) (v := .bool (decide (rv_3819 < 0))) rfl (t_cmp rfl rfl rfl (fun _ _ => rfl) rfl) (.inr ⟨_, _, _, rfl, rfl, rfl⟩) (by kernel_rfl) (VA.t (i := 15) (v := .bool (decide (rv_3819 < 0))) rfl (t_pick (b := true) rfl rfl (fun _ => rfl) (fun h => by cases h)) (.inl rfl) (by kernel_rfl) (VA.done (by kernel_rfl) (thenQ_normal (VW.subK (.c 0 rfl (.c 1 rfl (.c 4 rfl (.c 12 rfl (.c 13 rfl (.c 109 rfl (.c 110 rfl (.c 111 rfl (.c 112 rfl (.c 113 rfl (.c 114 rfl (.c 115 rfl (.c 116 rfl (.c 117 rfl (.c 118 rfl (.c 119 rfl (.c 120 rfl .n))))))))))))))))) rfl ?_))))
    refine VW.cond (b := (decide (rv_3819 < 0))) rfl (fun hc_3821 => ?_) (fun hc_3821 => ?_)
    · replace h := iteT h hc_3821
      refine VW.skip (thenQ_normal (VW.subK (.c 0 rfl (.c 1 rfl (.c 4 rfl (.c 12 rfl (.c 13 rfl (.c 109 rfl (.c 110 rfl (.c 111 rfl (.c 112 rfl (.c 113 rfl (.c 114 rfl (.c 115 rfl (.c 116 rfl (.c 117 rfl (.c 118 rfl (.c 119 rfl .n)))))))))))))))) rfl (VW.block (VW.region (VO.t (t_move rfl rfl) rfl rfl (VO.t (v := .int .i64 (w64 (i_3805 + 1))) (t_add rfl rfl (fun _ _ => rfl) rfl) rfl rfl (VO.t (v := .int .i64 (w64 (i_3805 + 1))) (t_assign rfl rfl) rfl rfl (VO.nil (blockQ_normal ?_)))))))))
      refine thenQ_normal (VL.round ?_)
      refine VW.subK (.c 0 rfl (.c 1 rfl (.c 4 rfl (.c 12 rfl (.c 13 rfl .n))))) rfl ?_
      exact ih _ _ h (.own ob_3817 cap_3817 len_3817) [(ob_3817, .cells ((bu_3640.map Pr.c).flatten ++ sl_3817))] (Buf.own (n := 2) (l := bu_3640.map Pr.c) ob_3817 cap_3817 len_3817 sl_3817 (elemsOK_map Pr.c_ok _) (by simp [hl_3817]) hc_3817 hs_3817) hx0
    · replace h := iteF h hc_3821
      refine VW.subK (.c 0 rfl (.c 1 rfl (.c 4 rfl (.c 12 rfl (.c 13 rfl .n))))) rfl (VW.exit (thenQ_exit (thenQ_exit ?_)))
      have h := Option.some.inj h
      subst h
      exact hx0 _ [(ob_3817, .cells ((bu_3640.map Pr.c).flatten ++ sl_3817))] rfl (Buf.own (n := 2) (l := bu_3640.map Pr.c) ob_3817 cap_3817 len_3817 sl_3817 (elemsOK_map Pr.c_ok _) (by simp [hl_3817]) hc_3817 hs_3817)
  · replace h := iteF h hc_3815
    refine VA.skip (i := 4) rfl rfl rfl rfl rfl (by kernel_rfl) (VA.skip (i := 5) rfl rfl rfl rfl rfl (by kernel_rfl) (VA.skip (i := 6) rfl rfl rfl rfl rfl (by kernel_rfl) (VA.skip (i := 7) rfl rfl rfl rfl rfl (by kernel_rfl) (VA.skip (i := 8) rfl rfl rfl rfl rfl (by kernel_rfl) (VA.skip (i := 9) rfl rfl rfl rfl rfl (by kernel_rfl) (VA.skip (i := 10) rfl rfl rfl rfl rfl (by kernel_rfl) (VA.skip (i := 11) rfl rfl rfl rfl rfl (by kernel_rfl) (VA.skip (i := 12) rfl rfl rfl rfl rfl (by kernel_rfl) (VA.skip (i := 13) rfl rfl rfl rfl rfl (by kernel_rfl) ?_)))))))))
    refine VA.skip (i := 14) rfl rfl rfl rfl rfl (by kernel_rfl) (VA.t (i := 15) (v := .bool false) rfl (t_pick (b := false) rfl rfl (fun h => by cases h) (fun _ => (fun _ _ => rfl))) (.inl rfl) (by kernel_rfl) (VA.done (by kernel_rfl) (thenQ_normal (VW.subK (.c 0 rfl (.c 1 rfl (.c 4 rfl (.c 12 rfl (.c 13 rfl (.c 109 rfl (.c 110 rfl (.c 111 rfl (.c 112 rfl (.c 113 rfl (.c 114 rfl (.c 115 rfl (.c 116 rfl (.c 117 rfl (.c 118 rfl (.c 119 rfl (.c 120 rfl .n))))))))))))))))) rfl (VW.condF rfl (VW.subK (.c 0 rfl (.c 1 rfl (.c 4 rfl (.c 12 rfl (.c 13 rfl .n))))) rfl (VW.exit (thenQ_exit (thenQ_exit ?_)))))))))
    have h := Option.some.inj h
    subst h
    exact hx0 _ bp0_3804 rfl hbp0_3804

theorem slices_partitionCmpFunc_2int.l4_ok (a4 : Pr → Pr → Option Int) (a1 : Int) (bu_3640 : List Pr) (i_3814 : Int) (a4_f : Nat) (a4_a a4_c : List VV) (a4_g : Seg) (a4_k : FnOK Try.prog a4_f) (a4_h : ∀ (y0 : Pr) (y1 : Pr) (z : Int), a4 y0 y1 = some z → VCalls Try.prog a4_f (a4_a ++ [.agg [.int .i64 y0.x0, .int .i64 y0.x1], .agg [.int .i64 y1.x0, .int .i64 y1.x1]] ++ a4_c) (hq [a4_g] []) (fun v H => .int .i64 z = v ∧ H = hq [a4_g] [])) {Q : Exit → Env → HH → Prop} :
    ∀ (j_3861 : Int) (o : Int), PL.slices_partitionCmpFunc_2int.l4 a4 a1 bu_3640 i_3814 j_3861 = some o →
    ∀ (vp0_3860 : VV) (bp0_3860 : Seg) (hbp0_3860 : Buf 2 (bu_3640.map Pr.c) vp0_3860 bp0_3860) (hx0 : ∀ (j_3870 : Int) (bp0_3869 : Seg), j_3870 = o → Buf 2 (bu_3640.map Pr.c) vp0_3860 bp0_3869 → Q (.exit 8) ⟨[(0, vp0_3860), (1, .int .i64 a1), (4, .func (.func a4_f) a4_a a4_c), (12, .int .i64 i_3814), (13, .int .i64 j_3870)], []⟩ (hq ([a4_g, bp0_3869]) [])), VW Try.prog 178 (codeAt [1, 1, 1, 1, 1, 1, 1, 1, 1, 0, 0, 0, 0, 1, 0, 0, 0] (bodyOf Try.f68)) (thenQ (VL Try.prog 178 (codeAt [1, 1, 1, 1, 1, 1, 1, 1, 1, 0, 0, 0, 0, 1, 0, 0, 0] (bodyOf Try.f68)) Q) Q) ⟨[(0, vp0_3860), (1, .int .i64 a1), (4, .func (.func a4_f) a4_a a4_c), (12, .int .i64 i_3814), (13, .int .i64 j_3861)], []⟩ (hq ([a4_g, bp0_3860]) []) := by
  refine PL.slices_partitionCmpFunc_2int.l4.partial_correctness a4 a1 bu_3640 i_3814 (motive := fun j_3861 o => ∀ (vp0_3860 : VV) (bp0_3860 : Seg) (hbp0_3860 : Buf 2 (bu_3640.map Pr.c) vp0_3860 bp0_3860) (hx0 : ∀ (j_3870 : Int) (bp0_3869 : Seg), j_3870 = o → Buf 2 (bu_3640.map Pr.c) vp0_3860 bp0_3869 → Q (.exit 8) ⟨[(0, vp0_3860), (1, .int .i64 a1), (4, .func (.func a4_f) a4_a a4_c), (12, .int .i64 i_3814), (13, .int .i64 j_3870)], []⟩ (hq ([a4_g, bp0_3869]) [])), VW Try.prog 178 (codeAt [1, 1, 1, 1, 1, 1, 1, 1, 1, 0, 0, 0, 0, 1, 0, 0, 0] (bodyOf Try.f68)) (thenQ (VL Try.prog 178 (codeAt [1, 1, 1, 1, 1, 1, 1, 1, 1, 0, 0, 0, 0, 1, 0, 0, 0] (bodyOf Try.f68)) Q) Q) ⟨[(0, vp0_3860), (1, .int .i64 a1), (4, .func (.func a4_f) a4_a a4_c), (12, .int .i64 i_3814), (13, .int .i64 j_3861)], []⟩ (hq ([a4_g, bp0_3860]) [])) ?_
  intro _ ih j_3861 o h vp0_3860 bp0_3860 hbp0_3860 hx0
  refine VW.seq (VW.seq (VW.draw 17 mix rfl (VA.t (i := 0) rfl (t_move rfl rfl) (.inl rfl) (by kernel_rfl) (VA.t (i := 1) rfl (t_move rfl rfl) (.inl rfl) (by kernel_rfl) (VA.t (i := 2) (v := .bool (decide (i_3814 ≤ j_3861))) rfl (t_cmp rfl rfl rfl rfl rfl) (.inl rfl) (by kernel_rfl) (VA.t (i := 3) rfl (t_move rfl rfl) (.inl rfl) (by kernel_rfl) ?_))))))
  refine VA.caseB (d := 126) (b := (decide (i_3814 ≤ j_3861))) rfl (fun hc_3871 => ?_) (fun hc_3871 => ?_)
  · replace h := iteT h hc_3871
    refine VA.phase (g := 4) [4, 5, 6, 7, 8, 9, 10, 11, 12] 9 (VP.take (i := 4) rfl (TOp.r (t_move rfl rfl)) (.inr ⟨_, _, _, rfl, rfl, rfl⟩) (by kernel_rfl) (VP.take (i := 5) rfl (TOp.r (t_move rfl rfl)) (.inr ⟨_, _, _, rfl, rfl, rfl⟩) (by kernel_rfl) (VP.take (i := 6) rfl (TOp.r (t_move rfl rfl)) (.inr ⟨_, _, _, rfl, rfl, rfl⟩) (by kernel_rfl) ?_)))
    obtain ⟨c_3872, hc_3872, h⟩ := obind h
    obtain ⟨ob_3873, cap_3873, len_3873, sl_3873, rfl, rfl, hE_3873, hl_3873, hc_3873, hs_3873⟩ := buf_at hbp0_3860 hc_3872
    refine VP.take (i := 7) (v := .ptr ob_3873 (j_3861.toNat * 2 + 0)) rfl (TOp.r (t_index_own rfl sl22 rfl rfl (getI_some hc_3872).1 (by rw [hl_3873]; exact getI_lt hc_3872) rfl)) (.inr ⟨_, _, _, rfl, rfl, rfl⟩) (by kernel_rfl) (VP.take (i := 8) (v := .agg [.int .i64 c_3872.x0, .int .i64 c_3872.x1]) rfl (r_load_buf (n := 2) (f := 0) (j := 1) rfl sz49 rfl rfl hE_3873 (map_get (getI_some hc_3872).2 (Pr.c_eq c_3872)) (Nat.le_of_ble_eq_true rfl) (fun _ => ofCells_agg rfl)) (.inr ⟨_, _, _, rfl, rfl, rfl⟩) (by kernel_rfl) (VP.take (i := 9) rfl (TOp.r (t_move rfl rfl)) (.inr ⟨_, _, _, rfl, rfl, rfl⟩) (by kernel_rfl) (VP.take (i := 10) rfl (TOp.r (t_move rfl rfl)) (.inr ⟨_, _, _, rfl, rfl, rfl⟩) (by kernel_rfl) ?_)))
    obtain ⟨c_3874, hc_3874, h⟩ := obind h
    refine VP.take (i := 11) (v := .ptr ob_3873 (a1.toNat * 2 + 0)) rfl (TOp.r (t_index_own rfl sl22 rfl rfl (getI_some hc_3874).1 (by rw [hl_3873]; exact getI_lt hc_3874) rfl)) (.inr ⟨_, _, _, rfl, rfl, rfl⟩) (by kernel_rfl) (VP.take (i := 12) (v := .agg [.int .i64 c_3874.x0, .int .i64 c_3874.x1]) rfl (r_load_buf (n := 2) (f := 0) (j := 1) rfl sz49 rfl rfl hE_3873 (map_get (getI_some hc_3874).2 (Pr.c_eq c_3874)) (Nat.le_of_ble_eq_true rfl) (fun _ => ofCells_agg rfl)) (.inr ⟨_, _, _, rfl, rfl, rfl⟩) (by kernel_rfl) (VP.done (by kernel_rfl) ?_))
    obtain ⟨rv_3875, hx_3876, h⟩ := obind h
    refine VA.w (i := 13) (fun v H' => .int .i64 rv_3875 = v ∧ H' = hq ([a4_g, [(ob_3873, .cells ((bu_3640.map Pr.c).flatten ++ sl_3873))]]) []) rfl (w_call_q (sa := [a4_g]) (sg := [[(ob_3873, .cells ((bu_3640.map Pr.c).flatten ++ sl_3873))]]) (tks := []) rfl a4_k rfl ⟨_, _, rfl, rfl, _, _, rfl, rfl, rfl⟩ (a4_h _ _ _ hx_3876) (by rintro v H' ⟨rfl, rfl⟩; exact ⟨[a4_g], rfl, rfl, rfl⟩)) (.inr ⟨_, _, _, rfl, rfl, rfl⟩) (by kernel_rfl) rfl ?_
    rintro _ _ ⟨rfl, rfl⟩
    refine VA.t (i := 14) (v := .bool (decide (rv_3875 < 0))) rfl (t_cmp rfl rfl rfl (fun _ _ => rfl) rfl) (.inr ⟨_, _, _, rfl, rfl, rfl⟩) (by kernel_rfl) (VA.t (i := 15) (v := .bool (!(decide (rv_3875 < 0)))) rfl (t_not rfl rfl rfl) (.inr ⟨_, _, _, rfl, rfl, rfl⟩) (by kernel_rfl) (VA.t (i := 16) (v := .bool (!(decide (rv_3875 < 0)))) rfl (t_pick (b := true) rfl rfl (fun _ => rfl) (fun h => by cases h)) (.inl rfl) (by kernel_rfl) (VA.done (by kernel_rfl) (thenQ_normal (VW.subK (.c 0 rfl (.c 1 rfl (.c 4 rfl (.c 12 rfl (.c 13 rfl (.c 127 rfl (.c 128 rfl (.c 129 rfl (.c 130 rfl (.c 131 rfl (.c 132 rfl (.c 133 rfl (.c 134 rfl (.c 135 rfl (.c 136 rfl (.c 137 rfl (.c 138 rfl (.c 139 rfl .n)))))))))))))))))) rfl ?_)))))
    refine VW.cond (b := (!(decide (rv_3875 < 0)))) rfl (fun hc_3877 => ?_) (fun hc_3877 => ?_)
    · replace h := iteT h hc_3877
      refine VW.skip (thenQ_normal (VW.subK (.c 0 rfl (.c 1 rfl (.c 4 rfl (.c 12 rfl (.c 13 rfl (.c 127 rfl (.c 128 rfl (.c 129 rfl (.c 130 rfl (.c 131 rfl (.c 132 rfl (.c 133 rfl (.c 134 rfl (.c 135 rfl (.c 136 rfl (.c 137 rfl (.c 138 rfl .n))))))))))))))))) rfl (VW.block (VW.region (VO.t (t_move rfl rfl) rfl rfl (VO.t (v := .int .i64 (w64 (j_3861 - 1))) (t_sub rfl rfl (fun _ _ => rfl) rfl) rfl rfl (VO.t (v := .int .i64 (w64 (j_3861 - 1))) (t_assign rfl rfl) rfl rfl (VO.nil (blockQ_normal ?_)))))))))
      refine thenQ_normal (VL.round ?_)
      refine VW.subK (.c 0 rfl (.c 1 rfl (.c 4 rfl (.c 12 rfl (.c 13 rfl .n))))) rfl ?_
      exact ih _ _ h (.own ob_3873 cap_3873 len_3873) [(ob_3873, .cells ((bu_3640.map Pr.c).flatten ++ sl_3873))] (Buf.own (n := 2) (l := bu_3640.map Pr.c) ob_3873 cap_3873 len_3873 sl_3873 (elemsOK_map Pr.c_ok _) (by simp [hl_3873]) hc_3873 hs_3873) hx0
    · replace h := iteF h hc_3877
      refine VW.subK (.c 0 rfl (.c 1 rfl (.c 4 rfl (.c 12 rfl (.c 13 rfl .n))))) rfl (VW.exit (thenQ_exit (thenQ_exit ?_)))
      have h := Option.some.inj h
      subst h
      exact hx0 _ [(ob_3873, .cells ((bu_3640.map Pr.c).flatten ++ sl_3873))] rfl (Buf.own (n := 2) (l := bu_3640.map Pr.c) ob_3873 cap_3873 len_3873 sl_3873 (elemsOK_map Pr.c_ok _) (by simp [hl_3873]) hc_3873 hs_3873)
  · replace h := iteF h hc_3871
    refine VA.skip (i := 4) rfl rfl rfl rfl rfl (by kernel_rfl) (VA.skip (i := 5) rfl rfl rfl rfl rfl (by kernel_rfl) (VA.skip (i := 6) rfl rfl rfl rfl rfl (by kernel_rfl) (VA.skip (i := 7) rfl rfl rfl rfl rfl (by kernel_rfl) (VA.skip (i := 8) rfl rfl rfl rfl rfl (by kernel_rfl) (VA.skip (i := 9) rfl rfl rfl rfl rfl (by kernel_rfl) (VA.skip (i := 10) rfl rfl rfl rfl rfl (by kernel_rfl) (VA.skip (i := 11) rfl rfl rfl rfl rfl (by kernel_rfl) (VA.skip (i := 12) rfl rfl rfl rfl rfl (by kernel_rfl) (VA.skip (i := 13) rfl rfl rfl rfl rfl (by kernel_rfl) ?_)))))))))
    refine VA.skip (i := 14) rfl rfl rfl rfl rfl (by kernel_rfl) (VA.skip (i := 15) rfl rfl rfl rfl rfl (by kernel_rfl) (VA.t (i := 16) (v := .bool false) rfl (t_pick (b := false) rfl rfl (fun h => by cases h) (fun _ => (fun _ _ => rfl))) (.inl rfl) (by kernel_rfl) (VA.done (by kernel_rfl) (thenQ_normal (VW.subK (.c 0 rfl (.c 1 rfl (.c 4 rfl (.c 12 rfl (.c 13 rfl (.c 127 rfl (.c 128 rfl (.c 129 rfl (.c 130 rfl (.c 131 rfl (.c 132 rfl (.c 133 rfl (.c 134 rfl (.c 135 rfl (.c 136 rfl (.c 137 rfl (.c 138 rfl (.c 139 rfl .n)))))))))))))))))) rfl (VW.condF rfl (VW.subK (.c 0 rfl (.c 1 rfl (.c 4 rfl (.c 12 rfl (.c 13 rfl .n))))) rfl (VW.exit (thenQ_exit ?_)))))))))
    refine thenQ_exit ?_
    have h := Option.some.inj h
    subst h
    exact hx0 _ bp0_3860 rfl hbp0_3860

theorem slices_partitionCmpFunc_2int.l2_ok (a4 : Pr → Pr → Option Int) (a1 : Int) (a4_f : Nat) (a4_a a4_c : List VV) (a4_g : Seg) (a4_k : FnOK Try.prog a4_f) (a4_h : ∀ (y0 : Pr) (y1 : Pr) (z : Int), a4 y0 y1 = some z → VCalls Try.prog a4_f (a4_a ++ [.agg [.int .i64 y0.x0, .int .i64 y0.x1], .agg [.int .i64 y1.x0, .int .i64 y1.x1]] ++ a4_c) (hq [a4_g] []) (fun v H => .int .i64 z = v ∧ H = hq [a4_g] [])) {Q : Exit → Env → HH → Prop} :
    ∀ (bu_3640 : List Pr) (i_3642 : Int) (j_3643 : Int) (o : (List Pr × Int)), PL.slices_partitionCmpFunc_2int.l2 a4 a1 bu_3640 i_3642 j_3643 = some o →
    ∀ (vp0_3641 : VV) (bp0_3641 : Seg) (hbp0_3641 : Buf 2 (bu_3640.map Pr.c) vp0_3641 bp0_3641) (hx0 : ∀ (bu_3765 : List Pr) (j_3767 : Int) (bp0_3766 : Seg), (bu_3765, j_3767) = o → Buf 2 (bu_3765.map Pr.c) vp0_3641 bp0_3766 → Q (.exit 4) ⟨[(0, vp0_3641), (1, .int .i64 a1), (13, .int .i64 j_3767)], []⟩ (hq ([a4_g, bp0_3766]) [])), VW Try.prog 178 (codeAt [1, 1, 1, 1, 1, 1, 1, 1, 1, 0, 0, 0] (bodyOf Try.f68)) (thenQ (VL Try.prog 178 (codeAt [1, 1, 1, 1, 1, 1, 1, 1, 1, 0, 0, 0] (bodyOf Try.f68)) Q) Q) ⟨[(0, vp0_3641), (1, .int .i64 a1), (4, .func (.func a4_f) a4_a a4_c), (12, .int .i64 i_3642), (13, .int .i64 j_3643)], []⟩ (hq ([a4_g, bp0_3641]) []) := by
  refine PL.slices_partitionCmpFunc_2int.l2.partial_correctness a4 a1 (motive := fun bu_3640 i_3642 j_3643 o => ∀ (vp0_3641 : VV) (bp0_3641 : Seg) (hbp0_3641 : Buf 2 (bu_3640.map Pr.c) vp0_3641 bp0_3641) (hx0 : ∀ (bu_3765 : List Pr) (j_3767 : Int) (bp0_3766 : Seg), (bu_3765, j_3767) = o → Buf 2 (bu_3765.map Pr.c) vp0_3641 bp0_3766 → Q (.exit 4) ⟨[(0, vp0_3641), (1, .int .i64 a1), (13, .int .i64 j_3767)], []⟩ (hq ([a4_g, bp0_3766]) [])), VW Try.prog 178 (codeAt [1, 1, 1, 1, 1, 1, 1, 1, 1, 0, 0, 0] (bodyOf Try.f68)) (thenQ (VL Try.prog 178 (codeAt [1, 1, 1, 1, 1, 1, 1, 1, 1, 0, 0, 0] (bodyOf Try.f68)) Q) Q) ⟨[(0, vp0_3641), (1, .int .i64 a1), (4, .func (.func a4_f) a4_a a4_c), (12, .int .i64 i_3642), (13, .int .i64 j_3643)], []⟩ (hq ([a4_g, bp0_3641]) [])) ?_
  intro _ ih bu_3640 i_3642 j_3643 o h vp0_3641 bp0_3641 hbp0_3641 hx0
  refine VW.block (VW.seq (VW.block (VW.subK (.c 0 rfl (.c 1 rfl (.c 4 rfl (.c 12 rfl (.c 13 rfl .n))))) rfl ?_)))
  obtain ⟨o_3822, hx_3823, h⟩ := obind h
  refine VW.loopL (slices_partitionCmpFunc_2int.l3_ok a4 a1 bu_3640 j_3643 a4_f a4_a a4_c a4_g a4_k a4_h _ _ hx_3823 vp0_3641 bp0_3641 hbp0_3641 ?_)
  · intro i_3814 bp0_3813 ho_ hbp0_3813
    subst ho_
    try dsimp only at h
    refine blockQ_hit (thenQ_normal (VW.seq (VW.block (VW.subK (.c 0 rfl (.c 1 rfl (.c 4 rfl (.c 12 rfl (.c 13 rfl .n))))) rfl ?_))))
    obtain ⟨o_3878, hx_3879, h⟩ := obind h
    refine VW.loopL (slices_partitionCmpFunc_2int.l4_ok a4 a1 bu_3640 i_3814 a4_f a4_a a4_c a4_g a4_k a4_h _ _ hx_3879 vp0_3641 bp0_3813 hbp0_3813 ?_)
    · intro j_3870 bp0_3869 ho_ hbp0_3869
      subst ho_
      try dsimp only at h
      refine blockQ_hit (thenQ_normal (VW.seq (VW.seq (VW.region (VO.t (t_move rfl rfl) rfl rfl (VO.t (t_move rfl rfl) rfl rfl (VO.t (v := .bool (decide (i_3814 > j_3870))) (t_cmp rfl rfl rfl rfl rfl) rfl rfl (VO.nil (thenQ_normal ?_)))))))))
      refine VW.subK (.c 0 rfl (.c 1 rfl (.c 4 rfl (.c 12 rfl (.c 13 rfl (.c 144 rfl .n)))))) rfl ?_
      refine VW.cond (b := (decide (i_3814 > j_3870))) rfl (fun hc_3880 => ?_) (fun hc_3880 => ?_)
      · replace h := iteT h hc_3880
        refine VW.subK (.c 0 rfl (.c 1 rfl (.c 13 rfl .n))) rfl (VW.exit (thenQ_exit (blockQ_miss rfl (thenQ_exit ?_))))
        have h := Option.some.inj h
        subst h
        exact hx0 _ _ bp0_3869 rfl hbp0_3869
      · replace h := iteF h hc_3880
        refine VW.skip (thenQ_normal (VW.subK (.c 0 rfl (.c 1 rfl (.c 4 rfl (.c 12 rfl (.c 13 rfl .n))))) rfl (VW.seq (VW.draw 16 mix rfl (VA.t (i := 0) rfl (t_move rfl rfl) (.inl rfl) (by kernel_rfl) (VA.t (i := 1) rfl (t_move rfl rfl) (.inl rfl) (by kernel_rfl) (VA.t (i := 2) rfl (t_move rfl rfl) (.inl rfl) (by kernel_rfl) (VA.t (i := 3) rfl (t_move rfl rfl) (.inl rfl) (by kernel_rfl) (VA.phase (g := 3) [4, 5, 6, 7, 8, 9, 10, 11, 12] 9 ?_)))))))))
        refine VP.take (i := 4) rfl (TOp.r (t_move rfl rfl)) (.inl rfl) (by kernel_rfl) (VP.take (i := 5) rfl (TOp.r (t_move rfl rfl)) (.inl rfl) (by kernel_rfl) ?_)
        obtain ⟨c_3881, hc_3881, h⟩ := obind h
        obtain ⟨ob_3882, cap_3882, len_3882, sl_3882, rfl, rfl, hE_3882, hl_3882, hc_3882, hs_3882⟩ := buf_at hbp0_3869 hc_3881
        refine VP.take (i := 6) (v := .ptr ob_3882 (j_3870.toNat * 2 + 0)) rfl (TOp.r (t_index_own rfl sl22 rfl rfl (getI_some hc_3881).1 (by rw [hl_3882]; exact getI_lt hc_3881) rfl)) (.inl rfl) (by kernel_rfl) (VP.take (i := 7) (v := .agg [.int .i64 c_3881.x0, .int .i64 c_3881.x1]) rfl (r_load_buf (n := 2) (f := 0) (j := 1) rfl sz49 rfl rfl hE_3882 (map_get (getI_some hc_3881).2 (Pr.c_eq c_3881)) (Nat.le_of_ble_eq_true rfl) (fun _ => ofCells_agg rfl)) (.inl rfl) (by kernel_rfl) (VP.take (i := 8) rfl (TOp.r (t_move rfl rfl)) (.inl rfl) (by kernel_rfl) (VP.take (i := 9) rfl (TOp.r (t_move rfl rfl)) (.inl rfl) (by kernel_rfl) ?_)))
        obtain ⟨c_3883, hc_3883, h⟩ := obind h
        refine VP.take (i := 10) (v := .ptr ob_3882 (i_3814.toNat * 2 + 0)) rfl (TOp.r (t_index_own rfl sl22 rfl rfl (getI_some hc_3883).1 (by rw [hl_3882]; exact getI_lt hc_3883) rfl)) (.inl rfl) (by kernel_rfl) (VP.take (i := 11) (v := .agg [.int .i64 c_3883.x0, .int .i64 c_3883.x1]) rfl (r_load_buf (n := 2) (f := 0) (j := 1) rfl sz49 rfl rfl hE_3882 (map_get (getI_some hc_3883).2 (Pr.c_eq c_3883)) (Nat.le_of_ble_eq_true rfl) (fun _ => ofCells_agg rfl)) (.inl rfl) (by kernel_rfl) (VP.take (i := 12) (v := .ptr ob_3882 (i_3814.toNat * 2 + 0)) rfl (TOp.r (t_index_own rfl sl22 rfl rfl (getI_some hc_3883).1 (by rw [hl_3882]; exact getI_lt hc_3883) rfl)) (.inl rfl) (by kernel_rfl) (VP.done (by kernel_rfl) (VA.w (i := 13) (fun v H' => .any = v ∧ H' = hq ([a4_g, [(ob_3882, .cells (((bu_3640.set i_3814.toNat c_3881).map Pr.c).flatten ++ sl_3882))]]) []) rfl (w_store_buf (n := 2) (f := 0) (j := 1) rfl sz49 rfl rfl rfl hE_3882 (map_get (getI_some hc_3883).2 (Pr.c_eq c_3883)) rfl rfl (Nat.le_of_ble_eq_true rfl) rfl (map_set (Pr.c_eq c_3881)) ⟨rfl, rfl⟩) (.inl rfl) (by kernel_rfl) rfl ?_))))
        rintro _ _ ⟨rfl, rfl⟩
        have hl_3885 : len_3882 = (bu_3640.set i_3814.toNat c_3881).length := by simp [hl_3882]
        obtain ⟨c_3886, hc_3886, h⟩ := obind h
        refine VA.t (i := 14) (v := .ptr ob_3882 (j_3870.toNat * 2 + 0)) rfl (t_index_own rfl sl22 rfl rfl (getI_some hc_3886).1 (by rw [hl_3885]; exact getI_lt hc_3886) rfl) (.inl rfl) (by kernel_rfl) (VA.w (i := 15) (fun v H' => .any = v ∧ H' = hq ([a4_g, [(ob_3882, .cells ((((bu_3640.set i_3814.toNat c_3881).set j_3870.toNat c_3883).map Pr.c).flatten ++ sl_3882))]]) []) rfl (w_store_buf (n := 2) (f := 0) (j := 1) rfl sz49 rfl rfl rfl (elemsOK_map Pr.c_ok _) (map_get (getI_some hc_3886).2 (Pr.c_eq c_3886)) rfl rfl (Nat.le_of_ble_eq_true rfl) rfl (map_set (Pr.c_eq c_3883)) ⟨rfl, rfl⟩) (.inl rfl) (by kernel_rfl) rfl ?_)
        rintro _ _ ⟨rfl, rfl⟩
        have hl_3888 : len_3882 = ((bu_3640.set i_3814.toNat c_3881).set j_3870.toNat c_3883).length := by simp [hl_3885]
        refine VA.done (by kernel_rfl) (thenQ_normal (VW.subK (.c 0 rfl (.c 1 rfl (.c 4 rfl (.c 12 rfl (.c 13 rfl .n))))) rfl (VW.seq (VW.region (VO.t (t_move rfl rfl) rfl rfl (VO.t (v := .int .i64 (w64 (i_3814 + 1))) (t_add rfl rfl (fun _ _ => rfl) rfl) rfl rfl (VO.t (v := .int .i64 (w64 (i_3814 + 1))) (t_assign rfl rfl) rfl rfl (VO.nil (thenQ_normal ?_)))))))))
        refine VW.subK (.c 0 rfl (.c 1 rfl (.c 4 rfl (.c 13 rfl (.c 12 rfl .n))))) rfl (VW.region (VO.t (t_move rfl rfl) rfl rfl (VO.t (v := .int .i64 (w64 (j_3870 - 1))) (t_sub rfl rfl (fun _ _ => rfl) rfl) rfl rfl (VO.t (v := .int .i64 (w64 (j_3870 - 1))) (t_assign rfl rfl) rfl rfl (VO.nil (blockQ_normal (thenQ_normal (VL.round ?_))))))))
        refine VW.subK (.c 0 rfl (.c 1 rfl (.c 4 rfl (.c 12 rfl (.c 13 rfl .n))))) rfl ?_
        exact ih _ _ _ _ h (.own ob_3882 cap_3882 len_3882) [(ob_3882, .cells ((((bu_3640.set i_3814.toNat c_3881).set j_3870.toNat c_3883).map Pr.c).flatten ++ sl_3882))] (Buf.own (n := 2) (l := ((bu_3640.set i_3814.toNat c_3881).set j_3870.toNat c_3883).map Pr.c) ob_3882 cap_3882 len_3882 sl_3882 (elemsOK_map Pr.c_ok _) (by simp [hl_3888]) hc_3882 hs_3882) hx0

theorem slices_partitionCmpFunc_2int_ok (a0 : List Pr) (a1 : Int) (a2 : Int) (a3 : Int) (a4 : Pr → Pr → Option Int) (r : Int × Bool × List Pr) (h : PL.slices_partitionCmpFunc_2int a0 a1 a2 a3 a4 = some r) (v0 : VV) (b0 : Seg) (a4_f : Nat) (a4_a : List VV) (a4_c : List VV) (a4_g : Seg) (hB0 : Buf 2 (a0.map Pr.c) v0 b0) (a4_k : FnOK Try.prog a4_f) (a4_h : ∀ (y0 : Pr) (y1 : Pr) (z : Int), a4 y0 y1 = some z → VCalls Try.prog a4_f (a4_a ++ [.agg [.int .i64 y0.x0, .int .i64 y0.x1], .agg [.int .i64 y1.x0, .int .i64 y1.x1]] ++ a4_c) (hq [a4_g] []) (fun v H => .int .i64 z = v ∧ H = hq [a4_g] [])) :
    VCalls Try.prog 68 [v0, .int .i64 a1, .int .i64 a2, .int .i64 a3, .func (.func a4_f) a4_a a4_c] (hq [b0, a4_g] []) (fun v H => ∃ bk0, Buf 2 (r.2.2.map Pr.c) v0 bk0 ∧ .tup [.int .i64 r.1, .bool r.2.1] = v ∧ H = hq [bk0, a4_g] []) := by
  unfold PL.slices_partitionCmpFunc_2int at h
  refine VCalls.of_body 178 [10, 11] Try.func68 rfl rfl rfl (Nat.le_of_ble_eq_true rfl) (VW.subK (.c 0 rfl (.c 1 rfl (.c 2 rfl (.c 3 rfl (.c 4 rfl .n))))) rfl (VW.seq (VW.region (VO.t (v := .int .i64 0) (t_assign rfl (fun _ _ => rfl)) rfl rfl (VO.t (v := .bool false) (t_assign rfl (fun _ _ => rfl)) rfl rfl (VO.nil (thenQ_normal (VW.subK (.c 0 rfl (.c 1 rfl (.c 2 rfl (.c 3 rfl (.c 4 rfl .n))))) rfl (VW.seq ?_)))))))))
  refine VW.draw 16 mix rfl (VA.t (i := 0) rfl (t_move rfl rfl) (.inl rfl) (by kernel_rfl) (VA.t (i := 1) rfl (t_move rfl rfl) (.inl rfl) (by kernel_rfl) (VA.t (i := 2) rfl (t_move rfl rfl) (.inl rfl) (by kernel_rfl) (VA.t (i := 3) rfl (t_move rfl rfl) (.inl rfl) (by kernel_rfl) (VA.phase (g := 3) [4, 5, 6, 7, 8, 9, 10, 11, 12] 9 (VP.take (i := 4) rfl (TOp.r (t_move rfl rfl)) (.inl rfl) (by kernel_rfl) (VP.take (i := 5) rfl (TOp.r (t_move rfl rfl)) (.inl rfl) (by kernel_rfl) ?_)))))))
  obtain ⟨c_3008, hc_3008, h⟩ := obind h
  obtain ⟨ob_3009, cap_3009, len_3009, sl_3009, rfl, rfl, hE_3009, hl_3009, hc_3009, hs_3009⟩ := buf_at hB0 hc_3008
  refine VP.take (i := 6) (v := .ptr ob_3009 (a3.toNat * 2 + 0)) rfl (TOp.r (t_index_own rfl sl22 rfl rfl (getI_some hc_3008).1 (by rw [hl_3009]; exact getI_lt hc_3008) rfl)) (.inl rfl) (by kernel_rfl) (VP.take (i := 7) (v := .agg [.int .i64 c_3008.x0, .int .i64 c_3008.x1]) rfl (r_load_buf (n := 2) (f := 0) (j := 0) rfl sz49 rfl rfl hE_3009 (map_get (getI_some hc_3008).2 (Pr.c_eq c_3008)) (Nat.le_of_ble_eq_true rfl) (fun _ => ofCells_agg rfl)) (.inl rfl) (by kernel_rfl) (VP.take (i := 8) rfl (TOp.r (t_move rfl rfl)) (.inl rfl) (by kernel_rfl) (VP.take (i := 9) rfl (TOp.r (t_move rfl rfl)) (.inl rfl) (by kernel_rfl) ?_)))
  obtain ⟨c_3010, hc_3010, h⟩ := obind h
  refine VP.take (i := 10) (v := .ptr ob_3009 (a1.toNat * 2 + 0)) rfl (TOp.r (t_index_own rfl sl22 rfl rfl (getI_some hc_3010).1 (by rw [hl_3009]; exact getI_lt hc_3010) rfl)) (.inl rfl) (by kernel_rfl) (VP.take (i := 11) (v := .agg [.int .i64 c_3010.x0, .int .i64 c_3010.x1]) rfl (r_load_buf (n := 2) (f := 0) (j := 0) rfl sz49 rfl rfl hE_3009 (map_get (getI_some hc_3010).2 (Pr.c_eq c_3010)) (Nat.le_of_ble_eq_true rfl) (fun _ => ofCells_agg rfl)) (.inl rfl) (by kernel_rfl) (VP.take (i := 12) (v := .ptr ob_3009 (a1.toNat * 2 + 0)) rfl (TOp.r (t_index_own rfl sl22 rfl rfl (getI_some hc_3010).1 (by rw [hl_3009]; exact getI_lt hc_3010) rfl)) (.inl rfl) (by kernel_rfl) (VP.done (by kernel_rfl) (VA.w (i := 13) (fun v H' => .any = v ∧ H' = hq ([[(ob_3009, .cells (((a0.set a1.toNat c_3008).map Pr.c).flatten ++ sl_3009))], a4_g]) []) rfl (w_store_buf (n := 2) (f := 0) (j := 0) rfl sz49 rfl rfl rfl hE_3009 (map_get (getI_some hc_3010).2 (Pr.c_eq c_3010)) rfl rfl (Nat.le_of_ble_eq_true rfl) rfl (map_set (Pr.c_eq c_3008)) ⟨rfl, rfl⟩) (.inl rfl) (by kernel_rfl) rfl ?_))))
  rintro _ _ ⟨rfl, rfl⟩
  have hl_3012 : len_3009 = (a0.set a1.toNat c_3008).length := by simp [hl_3009]
  obtain ⟨c_3013, hc_3013, h⟩ := obind h
  refine VA.t (i := 14) (v := .ptr ob_3009 (a3.toNat * 2 + 0)) rfl (t_index_own rfl sl22 rfl rfl (getI_some hc_3013).1 (by rw [hl_3012]; exact getI_lt hc_3013) rfl) (.inl rfl) (by kernel_rfl) (VA.w (i := 15) (fun v H' => .any = v ∧ H' = hq ([[(ob_3009, .cells ((((a0.set a1.toNat c_3008).set a3.toNat c_3010).map Pr.c).flatten ++ sl_3009))], a4_g]) []) rfl (w_store_buf (n := 2) (f := 0) (j := 0) rfl sz49 rfl rfl rfl (elemsOK_map Pr.c_ok _) (map_get (getI_some hc_3013).2 (Pr.c_eq c_3013)) rfl rfl (Nat.le_of_ble_eq_true rfl) rfl (map_set (Pr.c_eq c_3010)) ⟨rfl, rfl⟩) (.inl rfl) (by kernel_rfl) rfl ?_)
  rintro _ _ ⟨rfl, rfl⟩
  have hl_3015 : len_3009 = ((a0.set a1.toNat c_3008).set a3.toNat c_3010).length := by simp [hl_3012]
  refine VA.done (by kernel_rfl) (thenQ_normal (VW.subK (.c 0 rfl (.c 1 rfl (.c 2 rfl (.c 4 rfl .n)))) rfl (VW.seq (VW.region (VO.t (t_move rfl rfl) rfl rfl (VO.t (v := .int .i64 (w64 (a1 + 1))) (t_add rfl rfl (fun _ _ => rfl) rfl) rfl rfl (VO.t (t_move rfl rfl) rfl rfl (VO.t (v := .int .i64 (w64 (a2 - 1))) (t_sub rfl rfl (fun _ _ => rfl) rfl) rfl rfl (VO.t (v := .int .i64 (w64 (a1 + 1))) (t_assign rfl rfl) rfl rfl ?_)))))))))
  refine VO.t (v := .int .i64 (w64 (a2 - 1))) (t_assign rfl rfl) rfl rfl (VO.nil (thenQ_normal (VW.subK (.c 0 rfl (.c 1 rfl (.c 4 rfl (.c 12 rfl (.c 13 rfl .n))))) rfl (VW.seq (VW.block (VW.subK (.c 0 rfl (.c 1 rfl (.c 4 rfl (.c 12 rfl (.c 13 rfl .n))))) rfl ?_))))))
  obtain ⟨o_3070, hx_3071, h⟩ := obind h
  refine VW.loopL (slices_partitionCmpFunc_2int.l0_ok a4 a0 a1 a2 a3 c_3008 c_3010 a4_f a4_a a4_c a4_g a4_k a4_h _ _ hx_3071 (.own ob_3009 cap_3009 len_3009) [(ob_3009, .cells ((((a0.set a1.toNat c_3008).set a3.toNat c_3010).map Pr.c).flatten ++ sl_3009))] (Buf.own (n := 2) (l := ((a0.set a1.toNat c_3008).set a3.toNat c_3010).map Pr.c) ob_3009 cap_3009 len_3009 sl_3009 (elemsOK_map Pr.c_ok _) (by simp [hl_3015]) hc_3009 hs_3009) ?_)
  · intro i_3062 bp0_3061 ho_ hbp0_3061
    subst ho_
    try dsimp only at h
    refine blockQ_hit (thenQ_normal (VW.seq (VW.block (VW.subK (.c 0 rfl (.c 1 rfl (.c 4 rfl (.c 12 rfl (.c 13 rfl .n))))) rfl ?_))))
    obtain ⟨o_3126, hx_3127, h⟩ := obind h
    refine VW.loopL (slices_partitionCmpFunc_2int.l1_ok a4 a0 a1 a3 c_3008 c_3010 i_3062 a4_f a4_a a4_c a4_g a4_k a4_h _ _ hx_3127 (.own ob_3009 cap_3009 len_3009) bp0_3061 hbp0_3061 ?_)
    · intro j_3118 bp0_3117 ho_ hbp0_3117
      subst ho_
      try dsimp only at h
      refine blockQ_hit (thenQ_normal (VW.seq (VW.seq (VW.region (VO.t (t_move rfl rfl) rfl rfl (VO.t (t_move rfl rfl) rfl rfl (VO.t (v := .bool (decide (i_3062 > j_3118))) (t_cmp rfl rfl rfl rfl rfl) rfl rfl (VO.nil (thenQ_normal ?_)))))))))
      refine VW.subK (.c 0 rfl (.c 1 rfl (.c 4 rfl (.c 12 rfl (.c 13 rfl (.c 71 rfl .n)))))) rfl ?_
      refine VW.cond (b := (decide (i_3062 > j_3118))) rfl (fun hc_3128 => ?_) (fun hc_3128 => ?_)
      · replace h := iteT h hc_3128
        refine VW.seq (VW.draw 16 mix rfl (VA.t (i := 0) rfl (t_move rfl rfl) (.inl rfl) (by kernel_rfl) (VA.t (i := 1) rfl (t_move rfl rfl) (.inl rfl) (by kernel_rfl) (VA.t (i := 2) rfl (t_move rfl rfl) (.inl rfl) (by kernel_rfl) (VA.t (i := 3) rfl (t_move rfl rfl) (.inl rfl) (by kernel_rfl) (VA.phase (g := 3) [4, 5, 6, 7, 8, 9, 10, 11, 12] 9 (VP.take (i := 4) rfl (TOp.r (t_move rfl rfl)) (.inl rfl) (by kernel_rfl) (VP.take (i := 5) rfl (TOp.r (t_move rfl rfl)) (.inl rfl) (by kernel_rfl) ?_))))))))
        obtain ⟨c_3129, hc_3129, h⟩ := obind h
        obtain ⟨sl_3130, rfl, hE_3130, hl_3130, hc_3130, hs_3130⟩ := buf_own hbp0_3117
        refine VP.take (i := 6) (v := .ptr ob_3009 (a1.toNat * 2 + 0)) rfl (TOp.r (t_index_own rfl sl22 rfl rfl (getI_some hc_3129).1 (by rw [hl_3130]; exact getI_lt hc_3129) rfl)) (.inl rfl) (by kernel_rfl) (VP.take (i := 7) (v := .agg [.int .i64 c_3129.x0, .int .i64 c_3129.x1]) rfl (r_load_buf (n := 2) (f := 0) (j := 1) rfl sz49 rfl rfl hE_3130 (map_get (getI_some hc_3129).2 (Pr.c_eq c_3129)) (Nat.le_of_ble_eq_true rfl) (fun _ => ofCells_agg rfl)) (.inl rfl) (by kernel_rfl) (VP.take (i := 8) rfl (TOp.r (t_move rfl rfl)) (.inl rfl) (by kernel_rfl) (VP.take (i := 9) rfl (TOp.r (t_move rfl rfl)) (.inl rfl) (by kernel_rfl) ?_)))
        obtain ⟨c_3131, hc_3131, h⟩ := obind h
        refine VP.take (i := 10) (v := .ptr ob_3009 (j_3118.toNat * 2 + 0)) rfl (TOp.r (t_index_own rfl sl22 rfl rfl (getI_some hc_3131).1 (by rw [hl_3130]; exact getI_lt hc_3131) rfl)) (.inl rfl) (by kernel_rfl) (VP.take (i := 11) (v := .agg [.int .i64 c_3131.x0, .int .i64 c_3131.x1]) rfl (r_load_buf (n := 2) (f := 0) (j := 1) rfl sz49 rfl rfl hE_3130 (map_get (getI_some hc_3131).2 (Pr.c_eq c_3131)) (Nat.le_of_ble_eq_true rfl) (fun _ => ofCells_agg rfl)) (.inl rfl) (by kernel_rfl) (VP.take (i := 12) (v := .ptr ob_3009 (j_3118.toNat * 2 + 0)) rfl (TOp.r (t_index_own rfl sl22 rfl rfl (getI_some hc_3131).1 (by rw [hl_3130]; exact getI_lt hc_3131) rfl)) (.inl rfl) (by kernel_rfl) (VP.done (by kernel_rfl) (VA.w (i := 13) (fun v H' => .any = v ∧ H' = hq ([a4_g, [(ob_3009, .cells (((((a0.set a1.toNat c_3008).set a3.toNat c_3010).set j_3118.toNat c_3129).map Pr.c).flatten ++ sl_3130))]]) []) rfl (w_store_buf (n := 2) (f := 0) (j := 1) rfl sz49 rfl rfl rfl hE_3130 (map_get (getI_some hc_3131).2 (Pr.c_eq c_3131)) rfl rfl (Nat.le_of_ble_eq_true rfl) rfl (map_set (Pr.c_eq c_3129)) ⟨rfl, rfl⟩) (.inl rfl) (by kernel_rfl) rfl ?_))))
        rintro _ _ ⟨rfl, rfl⟩
        have hl_3133 : len_3009 = (((a0.set a1.toNat c_3008).set a3.toNat c_3010).set j_3118.toNat c_3129).length := by simp [hl_3130]
        obtain ⟨c_3134, hc_3134, h⟩ := obind h
        refine VA.t (i := 14) (v := .ptr ob_3009 (a1.toNat * 2 + 0)) rfl (t_index_own rfl sl22 rfl rfl (getI_some hc_3134).1 (by rw [hl_3133]; exact getI_lt hc_3134) rfl) (.inl rfl) (by kernel_rfl) (VA.w (i := 15) (fun v H' => .any = v ∧ H' = hq ([a4_g, [(ob_3009, .cells ((((((a0.set a1.toNat c_3008).set a3.toNat c_3010).set j_3118.toNat c_3129).set a1.toNat c_3131).map Pr.c).flatten ++ sl_3130))]]) []) rfl (w_store_buf (n := 2) (f := 0) (j := 1) rfl sz49 rfl rfl rfl (elemsOK_map Pr.c_ok _) (map_get (getI_some hc_3134).2 (Pr.c_eq c_3134)) rfl rfl (Nat.le_of_ble_eq_true rfl) rfl (map_set (Pr.c_eq c_3131)) ⟨rfl, rfl⟩) (.inl rfl) (by kernel_rfl) rfl ?_)
        rintro _ _ ⟨rfl, rfl⟩
        have hl_3136 : len_3009 = ((((a0.set a1.toNat c_3008).set a3.toNat c_3010).set j_3118.toNat c_3129).set a1.toNat c_3131).length := by simp [hl_3133]
        refine VA.done (by kernel_rfl) (thenQ_normal (VW.subK (.c 13 rfl .n) rfl (VW.seq (VW.region (VO.t (t_move rfl rfl) rfl rfl (VO.t (v := .int .i64 j_3118) (t_assign rfl rfl) rfl rfl (VO.t (v := .bool true) (t_assign rfl (fun _ _ => rfl)) rfl rfl (VO.nil (thenQ_normal ?_)))))))))
        refine VW.subK (.c 10 rfl (.c 11 rfl .n)) rfl (VW.frontS 0 rfl (VW.frontS 1 rfl (VW.ret (thenQ_ret ?_))))
        have h := Option.some.inj h
        subst h
        exact ⟨.inr rfl, rfl, _, .tup [.int .i64 j_3118, .bool true], hq [[(ob_3009, .cells ((((((a0.set a1.toNat c_3008).set a3.toNat c_3010).set j_3118.toNat c_3129).set a1.toNat c_3131).map Pr.c).flatten ++ sl_3130))], a4_g] [], ⟨_, _, rfl, rfl, rfl⟩, VLe.tup ⟨VLe.refl _, VLe.refl _, trivial⟩, hq_sub (.cons_cons _ (.cons_cons _ .slnil)) .slnil, [(ob_3009, .cells ((((((a0.set a1.toNat c_3008).set a3.toNat c_3010).set j_3118.toNat c_3129).set a1.toNat c_3131).map Pr.c).flatten ++ sl_3130))], (Buf.own (n := 2) (l := ((((a0.set a1.toNat c_3008).set a3.toNat c_3010).set j_3118.toNat c_3129).set a1.toNat c_3131).map Pr.c) ob_3009 cap_3009 len_3009 sl_3130 (elemsOK_map Pr.c_ok _) (by simp [hl_3136]) hc_3130 hs_3130), rfl, rfl⟩
      · replace h := iteF h hc_3128
        refine VW.skip (thenQ_normal (VW.subK (.c 0 rfl (.c 1 rfl (.c 4 rfl (.c 12 rfl (.c 13 rfl .n))))) rfl (VW.seq (VW.draw 16 mix rfl (VA.t (i := 0) rfl (t_move rfl rfl) (.inl rfl) (by kernel_rfl) (VA.t (i := 1) rfl (t_move rfl rfl) (.inl rfl) (by kernel_rfl) (VA.t (i := 2) rfl (t_move rfl rfl) (.inl rfl) (by kernel_rfl) (VA.t (i := 3) rfl (t_move rfl rfl) (.inl rfl) (by kernel_rfl) (VA.phase (g := 3) [4, 5, 6, 7, 8, 9, 10, 11, 12] 9 ?_)))))))))
        refine VP.take (i := 4) rfl (TOp.r (t_move rfl rfl)) (.inl rfl) (by kernel_rfl) (VP.take (i := 5) rfl (TOp.r (t_move rfl rfl)) (.inl rfl) (by kernel_rfl) ?_)
        obtain ⟨c_3137, hc_3137, h⟩ := obind h
        obtain ⟨sl_3138, rfl, hE_3138, hl_3138, hc_3138, hs_3138⟩ := buf_own hbp0_3117
        refine VP.take (i := 6) (v := .ptr ob_3009 (j_3118.toNat * 2 + 0)) rfl (TOp.r (t_index_own rfl sl22 rfl rfl (getI_some hc_3137).1 (by rw [hl_3138]; exact getI_lt hc_3137) rfl)) (.inl rfl) (by kernel_rfl) (VP.take (i := 7) (v := .agg [.int .i64 c_3137.x0, .int .i64 c_3137.x1]) rfl (r_load_buf (n := 2) (f := 0) (j := 1) rfl sz49 rfl rfl hE_3138 (map_get (getI_some hc_3137).2 (Pr.c_eq c_3137)) (Nat.le_of_ble_eq_true rfl) (fun _ => ofCells_agg rfl)) (.inl rfl) (by kernel_rfl) (VP.take (i := 8) rfl (TOp.r (t_move rfl rfl)) (.inl rfl) (by kernel_rfl) (VP.take (i := 9) rfl (TOp.r (t_move rfl rfl)) (.inl rfl) (by kernel_rfl) ?_)))
        obtain ⟨c_3139, hc_3139, h⟩ := obind h
        refine VP.take (i := 10) (v := .ptr ob_3009 (i_3062.toNat * 2 + 0)) rfl (TOp.r (t_index_own rfl sl22 rfl rfl (getI_some hc_3139).1 (by rw [hl_3138]; exact getI_lt hc_3139) rfl)) (.inl rfl) (by kernel_rfl) (VP.take (i := 11) (v := .agg [.int .i64 c_3139.x0, .int .i64 c_3139.x1]) rfl (r_load_buf (n := 2) (f := 0) (j := 1) rfl sz49 rfl rfl hE_3138 (map_get (getI_some hc_3139).2 (Pr.c_eq c_3139)) (Nat.le_of_ble_eq_true rfl) (fun _ => ofCells_agg rfl)) (.inl rfl) (by kernel_rfl) (VP.take (i := 12) (v := .ptr ob_3009 (i_3062.toNat * 2 + 0)) rfl (TOp.r (t_index_own rfl sl22 rfl rfl (getI_some hc_3139).1 (by rw [hl_3138]; exact getI_lt hc_3139) rfl)) (.inl rfl) (by kernel_rfl) (VP.done (by kernel_rfl) (VA.w (i := 13) (fun v H' => .any = v ∧ H' = hq ([a4_g, [(ob_3009, .cells (((((a0.set a1.toNat c_3008).set a3.toNat c_3010).set i_3062.toNat c_3137).map Pr.c).flatten ++ sl_3138))]]) []) rfl (w_store_buf (n := 2) (f := 0) (j := 1) rfl sz49 rfl rfl rfl hE_3138 (map_get (getI_some hc_3139).2 (Pr.c_eq c_3139)) rfl rfl (Nat.le_of_ble_eq_true rfl) rfl (map_set (Pr.c_eq c_3137)) ⟨rfl, rfl⟩) (.inl rfl) (by kernel_rfl) rfl ?_))))
        rintro _ _ ⟨rfl, rfl⟩
        have hl_3141 : len_3009 = (((a0.set a1.toNat c_3008).set a3.toNat c_3010).set i_3062.toNat c_3137).length := by simp [hl_3138]
        obtain ⟨c_3142, hc_3142, h⟩ := obind h
        refine VA.t (i := 14) (v := .ptr ob_3009 (j_3118.toNat * 2 + 0)) rfl (t_index_own rfl sl22 rfl rfl (getI_some hc_3142).1 (by rw [hl_3141]; exact getI_lt hc_3142) rfl) (.inl rfl) (by kernel_rfl) (VA.w (i := 15) (fun v H' => .any = v ∧ H' = hq ([a4_g, [(ob_3009, .cells ((((((a0.set a1.toNat c_3008).set a3.toNat c_3010).set i_3062.toNat c_3137).set j_3118.toNat c_3139).map Pr.c).flatten ++ sl_3138))]]) []) rfl (w_store_buf (n := 2) (f := 0) (j := 1) rfl sz49 rfl rfl rfl (elemsOK_map Pr.c_ok _) (map_get (getI_some hc_3142).2 (Pr.c_eq c_3142)) rfl rfl (Nat.le_of_ble_eq_true rfl) rfl (map_set (Pr.c_eq c_3139)) ⟨rfl, rfl⟩) (.inl rfl) (by kernel_rfl) rfl ?_)
        rintro _ _ ⟨rfl, rfl⟩
        have hl_3144 : len_3009 = ((((a0.set a1.toNat c_3008).set a3.toNat c_3010).set i_3062.toNat c_3137).set j_3118.toNat c_3139).length := by simp [hl_3141]
        refine VA.done (by kernel_rfl) (thenQ_normal (VW.subK (.c 0 rfl (.c 1 rfl (.c 4 rfl (.c 12 rfl (.c 13 rfl .n))))) rfl (VW.seq (VW.region (VO.t (t_move rfl rfl) rfl rfl (VO.t (v := .int .i64 (w64 (i_3062 + 1))) (t_add rfl rfl (fun _ _ => rfl) rfl) rfl rfl (VO.t (v := .int .i64 (w64 (i_3062 + 1))) (t_assign rfl rfl) rfl rfl (VO.nil (thenQ_normal ?_)))))))))
        refine VW.subK (.c 0 rfl (.c 1 rfl (.c 4 rfl (.c 13 rfl (.c 12 rfl .n))))) rfl (VW.seq (VW.region (VO.t (t_move rfl rfl) rfl rfl (VO.t (v := .int .i64 (w64 (j_3118 - 1))) (t_sub rfl rfl (fun _ _ => rfl) rfl) rfl rfl (VO.t (v := .int .i64 (w64 (j_3118 - 1))) (t_assign rfl rfl) rfl rfl (VO.nil (thenQ_normal (VW.subK (.c 0 rfl (.c 1 rfl (.c 4 rfl (.c 12 rfl (.c 13 rfl .n))))) rfl (VW.seq ?_)))))))))
        refine VW.block (VW.subK (.c 0 rfl (.c 1 rfl (.c 4 rfl (.c 12 rfl (.c 13 rfl .n))))) rfl ?_)
        obtain ⟨o_3889, hx_3890, h⟩ := obind h
        refine VW.loopL (slices_partitionCmpFunc_2int.l2_ok a4 a1 a4_f a4_a a4_c a4_g a4_k a4_h _ _ _ _ hx_3890 (.own ob_3009 cap_3009 len_3009) [(ob_3009, .cells ((((((a0.set a1.toNat c_3008).set a3.toNat c_3010).set i_3062.toNat c_3137).set j_3118.toNat c_3139).map Pr.c).flatten ++ sl_3138))] (Buf.own (n := 2) (l := ((((a0.set a1.toNat c_3008).set a3.toNat c_3010).set i_3062.toNat c_3137).set j_3118.toNat c_3139).map Pr.c) ob_3009 cap_3009 len_3009 sl_3138 (elemsOK_map Pr.c_ok _) (by simp [hl_3144]) hc_3138 hs_3138) ?_)
        · intro bu_3765 j_3767 bp0_3766 ho_ hbp0_3766
          subst ho_
          try dsimp only at h
          refine blockQ_hit (thenQ_normal (VW.seq (VW.draw 16 mix rfl (VA.t (i := 0) rfl (t_move rfl rfl) (.inl rfl) (by kernel_rfl) (VA.t (i := 1) rfl (t_move rfl rfl) (.inl rfl) (by kernel_rfl) (VA.t (i := 2) rfl (t_move rfl rfl) (.inl rfl) (by kernel_rfl) (VA.t (i := 3) rfl (t_move rfl rfl) (.inl rfl) (by kernel_rfl) (VA.phase (g := 3) [4, 5, 6, 7, 8, 9, 10, 11, 12] 9 (VP.take (i := 4) rfl (TOp.r (t_move rfl rfl)) (.inl rfl) (by kernel_rfl) ?_)))))))))
          refine VP.take (i := 5) rfl (TOp.r (t_move rfl rfl)) (.inl rfl) (by kernel_rfl) ?_
          obtain ⟨c_3891, hc_3891, h⟩ := obind h
          obtain ⟨sl_3892, rfl, hE_3892, hl_3892, hc_3892, hs_3892⟩ := buf_own hbp0_3766
          refine VP.take (i := 6) (v := .ptr ob_3009 (a1.toNat * 2 + 0)) rfl (TOp.r (t_index_own rfl sl22 rfl rfl (getI_some hc_3891).1 (by rw [hl_3892]; exact getI_lt hc_3891) rfl)) (.inl rfl) (by kernel_rfl) (VP.take (i := 7) (v := .agg [.int .i64 c_3891.x0, .int .i64 c_3891.x1]) rfl (r_load_buf (n := 2) (f := 0) (j := 1) rfl sz49 rfl rfl hE_3892 (map_get (getI_some hc_3891).2 (Pr.c_eq c_3891)) (Nat.le_of_ble_eq_true rfl) (fun _ => ofCells_agg rfl)) (.inl rfl) (by kernel_rfl) (VP.take (i := 8) rfl (TOp.r (t_move rfl rfl)) (.inl rfl) (by kernel_rfl) (VP.take (i := 9) rfl (TOp.r (t_move rfl rfl)) (.inl rfl) (by kernel_rfl) ?_)))
          obtain ⟨c_3893, hc_3893, h⟩ := obind h
          refine VP.take (i := 10) (v := .ptr ob_3009 (j_3767.toNat * 2 + 0)) rfl (TOp.r (t_index_own rfl sl22 rfl rfl (getI_some hc_3893).1 (by rw [hl_3892]; exact getI_lt hc_3893) rfl)) (.inl rfl) (by kernel_rfl) (VP.take (i := 11) (v := .agg [.int .i64 c_3893.x0, .int .i64 c_3893.x1]) rfl (r_load_buf (n := 2) (f := 0) (j := 1) rfl sz49 rfl rfl hE_3892 (map_get (getI_some hc_3893).2 (Pr.c_eq c_3893)) (Nat.le_of_ble_eq_true rfl) (fun _ => ofCells_agg rfl)) (.inl rfl) (by kernel_rfl) (VP.take (i := 12) (v := .ptr ob_3009 (j_3767.toNat * 2 + 0)) rfl (TOp.r (t_index_own rfl sl22 rfl rfl (getI_some hc_3893).1 (by rw [hl_3892]; exact getI_lt hc_3893) rfl)) (.inl rfl) (by kernel_rfl) (VP.done (by kernel_rfl) (VA.w (i := 13) (fun v H' => .any = v ∧ H' = hq ([a4_g, [(ob_3009, .cells (((bu_3765.set j_3767.toNat c_3891).map Pr.c).flatten ++ sl_3892))]]) []) rfl (w_store_buf (n := 2) (f := 0) (j := 1) rfl sz49 rfl rfl rfl hE_3892 (map_get (getI_some hc_3893).2 (Pr.c_eq c_3893)) rfl rfl (Nat.le_of_ble_eq_true rfl) rfl (map_set (Pr.c_eq c_3891)) ⟨rfl, rfl⟩) (.inl rfl) (by kernel_rfl) rfl ?_))))
          rintro _ _ ⟨rfl, rfl⟩
          have hl_3895 : len_3009 = (bu_3765.set j_3767.toNat c_3891).length := by simp [hl_3892]
          obtain ⟨c_3896, hc_3896, h⟩ := obind h
          refine VA.t (i := 14) (v := .ptr ob_3009 (a1.toNat * 2 + 0)) rfl (t_index_own rfl sl22 rfl rfl (getI_some hc_3896).1 (by rw [hl_3895]; exact getI_lt hc_3896) rfl) (.inl rfl) (by kernel_rfl) (VA.w (i := 15) (fun v H' => .any = v ∧ H' = hq ([a4_g, [(ob_3009, .cells ((((bu_3765.set j_3767.toNat c_3891).set a1.toNat c_3893).map Pr.c).flatten ++ sl_3892))]]) []) rfl (w_store_buf (n := 2) (f := 0) (j := 1) rfl sz49 rfl rfl rfl (elemsOK_map Pr.c_ok _) (map_get (getI_some hc_3896).2 (Pr.c_eq c_3896)) rfl rfl (Nat.le_of_ble_eq_true rfl) rfl (map_set (Pr.c_eq c_3893)) ⟨rfl, rfl⟩) (.inl rfl) (by kernel_rfl) rfl ?_)
          rintro _ _ ⟨rfl, rfl⟩
          have hl_3898 : len_3009 = ((bu_3765.set j_3767.toNat c_3891).set a1.toNat c_3893).length := by simp [hl_3895]
          refine VA.done (by kernel_rfl) (thenQ_normal (VW.subK (.c 13 rfl .n) rfl (VW.seq (VW.region (VO.t (t_move rfl rfl) rfl rfl (VO.t (v := .int .i64 j_3767) (t_assign rfl rfl) rfl rfl (VO.t (v := .bool false) (t_assign rfl (fun _ _ => rfl)) rfl rfl (VO.nil (thenQ_normal ?_)))))))))
          refine VW.subK (.c 10 rfl (.c 11 rfl .n)) rfl (VW.frontS 0 rfl (VW.frontS 1 rfl (VW.ret ?_)))
          have h := Option.some.inj h
          subst h
          exact ⟨.inr rfl, rfl, _, .tup [.int .i64 j_3767, .bool false], hq [[(ob_3009, .cells ((((bu_3765.set j_3767.toNat c_3891).set a1.toNat c_3893).map Pr.c).flatten ++ sl_3892))], a4_g] [], ⟨_, _, rfl, rfl, rfl⟩, VLe.tup ⟨VLe.refl _, VLe.refl _, trivial⟩, hq_sub (.cons_cons _ (.cons_cons _ .slnil)) .slnil, [(ob_3009, .cells ((((bu_3765.set j_3767.toNat c_3891).set a1.toNat c_3893).map Pr.c).flatten ++ sl_3892))], (Buf.own (n := 2) (l := ((bu_3765.set j_3767.toNat c_3891).set a1.toNat c_3893).map Pr.c) ob_3009 cap_3009 len_3009 sl_3892 (elemsOK_map Pr.c_ok _) (by simp [hl_3898]) hc_3892 hs_3892), rfl, rfl⟩

theorem slices_pdqsortCmpFunc_2int_ok (a0 : List Pr) (a1 : Int) (a2 : Int) (a3 : Int) (a4 : Pr → Pr → Option Int) (r : List Pr) (h : PL.slices_pdqsortCmpFunc_2int a0 a1 a2 a3 a4 = some r) (v0 : VV) (b0 : Seg) (a4_f : Nat) (a4_a : List VV) (a4_c : List VV) (a4_g : Seg) (hB0 : Buf 2 (a0.map Pr.c) v0 b0) (a4_k : FnOK Try.prog a4_f) (a4_h : ∀ (y0 : Pr) (y1 : Pr) (z : Int), a4 y0 y1 = some z → VCalls Try.prog a4_f (a4_a ++ [.agg [.int .i64 y0.x0, .int .i64 y0.x1], .agg [.int .i64 y1.x0, .int .i64 y1.x1]] ++ a4_c) (hq [a4_g] []) (fun v H => .int .i64 z = v ∧ H = hq [a4_g] [])) :
    VCalls Try.prog 54 [v0, .int .i64 a1, .int .i64 a2, .int .i64 a3, .func (.func a4_f) a4_a a4_c] (hq [b0, a4_g] []) (fun v H => ∃ bk0, Buf 2 (r.map Pr.c) v0 bk0 ∧ .tup [] = v ∧ H = hq [bk0, a4_g] []) := by
  revert h v0 b0 a4_f a4_a a4_c a4_g hB0 a4_k a4_h
  refine (PL.slices_pdqsortCmpFunc_2int.l0.mutual_partial_correctness a4 (motive_1 := fun bu_4241 a_4243 b_4244 limit_4245 wasBalanced_4246 wasPartitioned_4247 o => ∀ (a4_f : Nat) (a4_a a4_c : List VV) (a4_g : Seg) (a4_k : FnOK Try.prog a4_f) (a4_h : ∀ (y0 : Pr) (y1 : Pr) (z : Int), a4 y0 y1 = some z → VCalls Try.prog a4_f (a4_a ++ [.agg [.int .i64 y0.x0, .int .i64 y0.x1], .agg [.int .i64 y1.x0, .int .i64 y1.x1]] ++ a4_c) (hq [a4_g] []) (fun v H => .int .i64 z = v ∧ H = hq [a4_g] [])) (Q : Exit → Env → HH → Prop) (vp0_4242 : VV) (bp0_4242 : Seg) (hbp0_4242 : Buf 2 (bu_4241.map Pr.c) vp0_4242 bp0_4242) (hx0 : ∀ (bu_4366 : List Pr) (bp0_4367 : Seg), bu_4366 = o → Buf 2 (bu_4366.map Pr.c) vp0_4242 bp0_4367 → Q .ret ⟨[], []⟩ (hq ([bp0_4367, a4_g]) [])), VW Try.prog 148 (codeAt [1, 1, 0, 0] (bodyOf Try.f54)) (thenQ (VL Try.prog 148 (codeAt [1, 1, 0, 0] (bodyOf Try.f54)) Q) Q) ⟨[(0, vp0_4242), (1, .int .i64 a_4243), (2, .int .i64 b_4244), (3, .int .i64 limit_4245), (4, .func (.func a4_f) a4_a a4_c), (10, .bool wasBalanced_4246), (11, .bool wasPartitioned_4247)], []⟩ (hq ([bp0_4242, a4_g]) [])) (motive_2 := fun a0 a1 a2 a3 r => ∀ (v0 : VV) (b0 : Seg) (a4_f : Nat) (a4_a : List VV) (a4_c : List VV) (a4_g : Seg) (hB0 : Buf 2 (a0.map Pr.c) v0 b0) (a4_k : FnOK Try.prog a4_f) (a4_h : ∀ (y0 : Pr) (y1 : Pr) (z : Int), a4 y0 y1 = some z → VCalls Try.prog a4_f (a4_a ++ [.agg [.int .i64 y0.x0, .int .i64 y0.x1], .agg [.int .i64 y1.x0, .int .i64 y1.x1]] ++ a4_c) (hq [a4_g] []) (fun v H => .int .i64 z = v ∧ H = hq [a4_g] [])), VCalls Try.prog 54 [v0, .int .i64 a1, .int .i64 a2, .int .i64 a3, .func (.func a4_f) a4_a a4_c] (hq [b0, a4_g] []) (fun v H => ∃ bk0, Buf 2 (r.map Pr.c) v0 bk0 ∧ .tup [] = v ∧ H = hq [bk0, a4_g] [])) ?_ ?_).2 a0 a1 a2 a3 r
  · intro _ _ ih_slices_pdqsortCmpFunc_2int_l0 ih_slices_pdqsortCmpFunc_2int bu_4241 a_4243 b_4244 limit_4245 wasBalanced_4246 wasPartitioned_4247 o h a4_f a4_a a4_c a4_g a4_k a4_h Q vp0_4242 bp0_4242 hbp0_4242 hx0
    refine VW.block (VW.seq (VW.region (VO.t (t_move rfl rfl) rfl rfl (VO.t (t_move rfl rfl) rfl rfl (VO.t (v := .int .i64 (w64 (b_4244 - a_4243))) (t_sub rfl rfl rfl rfl) rfl rfl (VO.t (v := .int .i64 (w64 (b_4244 - a_4243))) (t_assign rfl rfl) rfl rfl (VO.nil (thenQ_normal (VW.subK (.c 0 rfl (.c 1 rfl (.c 2 rfl (.c 3 rfl (.c 4 rfl (.c 10 rfl (.c 11 rfl (.c 12 rfl .n)))))))) rfl ?_)))))))))
    refine VW.seq (VW.seq (VW.region (VO.t (t_move rfl rfl) rfl rfl (VO.t (v := .bool (decide ((w64 (b_4244 - a_4243)) ≤ 12))) (t_cmp rfl rfl rfl (fun _ _ => rfl) rfl) rfl rfl (VO.nil (thenQ_normal (VW.subK (.c 0 rfl (.c 1 rfl (.c 2 rfl (.c 3 rfl (.c 4 rfl (.c 10 rfl (.c 11 rfl (.c 12 rfl (.c 25 rfl .n))))))))) rfl ?_)))))))
    refine VW.cond (b := (decide ((w64 (b_4244 - a_4243)) ≤ 12))) rfl (fun hc_4368 => ?_) (fun hc_4368 => ?_)
    · replace h := iteT h hc_4368
      refine VW.seq (VW.region (VO.t (t_move rfl rfl) rfl rfl (VO.t (t_move rfl rfl) rfl rfl (VO.t (t_move rfl rfl) rfl rfl (VO.t (t_move rfl rfl) rfl rfl ?_)))))
      obtain ⟨k_4369, hx_4370, h⟩ := obind h
      refine VO.w (fun v H' => ∃ bk0_4371, Buf 2 (k_4369.map Pr.c) vp0_4242 bk0_4371 ∧ .tup [] = v ∧ H' = hq ([bk0_4371, a4_g]) []) (w_call_q (sa := [bp0_4242, a4_g]) (sg := []) (tks := []) rfl fn61 rfl ⟨_, _, rfl, rfl, _, _, rfl, rfl, _, _, rfl, rfl, _, _, rfl, rfl, rfl⟩ (slices_insertionSortCmpFunc_2int_ok _ _ _ _ _ hx_4370 vp0_4242 bp0_4242 a4_f a4_a a4_c a4_g hbp0_4242 a4_k a4_h) (by rintro v H' ⟨bk0_4371, h_0, rfl, rfl⟩; exact ⟨[bk0_4371, a4_g], rfl, bk0_4371, h_0, rfl, rfl⟩)) rfl rfl ?_
      rintro _ _ ⟨bk0_4371, hB_4372, rfl, rfl⟩
      refine VO.nil (thenQ_normal (VW.subN (t' := []) trivial rfl (VW.subN (t' := []) trivial rfl (VW.ret (thenQ_ret (blockQ_ret (thenQ_ret ?_)))))))
      have h := Option.some.inj h
      subst h
      exact hx0 _ bk0_4371 rfl hB_4372
    · replace h := iteF h hc_4368
      refine VW.skip (thenQ_normal (VW.subK (.c 0 rfl (.c 1 rfl (.c 2 rfl (.c 3 rfl (.c 4 rfl (.c 10 rfl (.c 11 rfl (.c 12 rfl .n)))))))) rfl (VW.seq (VW.seq (VW.region (VO.t (t_move rfl rfl) rfl rfl (VO.t (v := .bool (limit_4245 == 0)) (t_cmp rfl rfl rfl (fun _ _ => rfl) rfl) rfl rfl (VO.nil (thenQ_normal ?_)))))))))
      refine VW.subK (.c 0 rfl (.c 1 rfl (.c 2 rfl (.c 3 rfl (.c 4 rfl (.c 10 rfl (.c 11 rfl (.c 12 rfl (.c 32 rfl .n))))))))) rfl ?_
      refine VW.cond (b := (limit_4245 == 0)) rfl (fun hc_4373 => ?_) (fun hc_4373 => ?_)
      · replace h := iteT h hc_4373
        refine VW.seq (VW.region (VO.t (t_move rfl rfl) rfl rfl (VO.t (t_move rfl rfl) rfl rfl (VO.t (t_move rfl rfl) rfl rfl (VO.t (t_move rfl rfl) rfl rfl ?_)))))
        obtain ⟨k_4374, hx_4375, h⟩ := obind h
        refine VO.w (fun v H' => ∃ bk0_4376, Buf 2 (k_4374.map Pr.c) vp0_4242 bk0_4376 ∧ .tup [] = v ∧ H' = hq ([bk0_4376, a4_g]) []) (w_call_q (sa := [bp0_4242, a4_g]) (sg := []) (tks := []) rfl fn62 rfl ⟨_, _, rfl, rfl, _, _, rfl, rfl, _, _, rfl, rfl, _, _, rfl, rfl, rfl⟩ (slices_heapSortCmpFunc_2int_ok _ _ _ _ _ hx_4375 vp0_4242 bp0_4242 a4_f a4_a a4_c a4_g hbp0_4242 a4_k a4_h) (by rintro v H' ⟨bk0_4376, h_0, rfl, rfl⟩; exact ⟨[bk0_4376, a4_g], rfl, bk0_4376, h_0, rfl, rfl⟩)) rfl rfl ?_
        rintro _ _ ⟨bk0_4376, hB_4377, rfl, rfl⟩
        refine VO.nil (thenQ_normal (VW.subN (t' := []) trivial rfl (VW.subN (t' := []) trivial rfl (VW.ret (thenQ_ret (blockQ_ret (thenQ_ret ?_)))))))
        have h := Option.some.inj h
        subst h
        exact hx0 _ bk0_4376 rfl hB_4377
      · replace h := iteF h hc_4373
        refine VW.skip (thenQ_normal (VW.subK (.c 0 rfl (.c 1 rfl (.c 2 rfl (.c 3 rfl (.c 4 rfl (.c 10 rfl (.c 11 rfl (.c 12 rfl .n)))))))) rfl (VW.seq (VW.seq (VW.region (VO.t (t_move rfl rfl) rfl rfl (VO.t (v := .bool (!wasBalanced_4246)) (t_not rfl rfl rfl) rfl rfl (VO.nil (thenQ_normal ?_)))))))))
        refine VW.subK (.c 0 rfl (.c 1 rfl (.c 2 rfl (.c 3 rfl (.c 4 rfl (.c 10 rfl (.c 11 rfl (.c 12 rfl (.c 39 rfl .n))))))))) rfl ?_
        obtain ⟨o_4388, h, hx_4386⟩ := obind h
        refine VW.joinQ (E := List Pr × Int × Seg) (I := fun ⟨bu_4383, limit_4385, bp0_4384⟩ => (bu_4383, limit_4385) = o_4388 ∧ Buf 2 (bu_4383.map Pr.c) vp0_4242 bp0_4384 ∧ True) (env' := fun ⟨bu_4383, limit_4385, bp0_4384⟩ => ⟨[(0, vp0_4242), (1, .int .i64 a_4243), (2, .int .i64 b_4244), (4, .func (.func a4_f) a4_a a4_c), (10, .bool wasBalanced_4246), (11, .bool wasPartitioned_4247), (12, .int .i64 (w64 (b_4244 - a_4243))), (3, .int .i64 limit_4385)], []⟩) (H' := fun ⟨bu_4383, limit_4385, bp0_4384⟩ => hq ([bp0_4384, a4_g]) []) ?_ (fun J_4387 => ?_)
        · rintro ⟨bu_4383, limit_4385, bp0_4384⟩ ⟨ho_, hbp0_4384, _⟩
          subst ho_
          replace h := hx_4386
          clear hx_4386
          try dsimp only at h
          show VW _ _ _ _ ⟨[(0, vp0_4242), (1, .int .i64 a_4243), (2, .int .i64 b_4244), (4, .func (.func a4_f) a4_a a4_c), (10, .bool wasBalanced_4246), (11, .bool wasPartitioned_4247), (12, .int .i64 (w64 (b_4244 - a_4243))), (3, .int .i64 limit_4385)], []⟩ (hq ([bp0_4384, a4_g]) [])
          refine VW.seq (VW.region (VO.t (t_move rfl rfl) rfl rfl (VO.t (t_move rfl rfl) rfl rfl (VO.t (t_move rfl rfl) rfl rfl (VO.t (t_move rfl rfl) rfl rfl ?_)))))
          obtain ⟨⟨rv_4389, rv_4390, k_4391⟩, hx_4392, h⟩ := obind h
          try dsimp only at h
          refine VO.w (fun v H' => ∃ bk0_4393, Buf 2 (k_4391.map Pr.c) vp0_4242 bk0_4393 ∧ .tup [.int .i64 rv_4389, .int .i64 rv_4390] = v ∧ H' = hq ([bk0_4393, a4_g]) []) (w_call_q (sa := [bp0_4384, a4_g]) (sg := []) (tks := []) rfl fn64 rfl ⟨_, _, rfl, rfl, _, _, rfl, rfl, _, _, rfl, rfl, _, _, rfl, rfl, rfl⟩ (slices_choosePivotCmpFunc_2int_ok _ _ _ _ _ hx_4392 vp0_4242 bp0_4384 a4_f a4_a a4_c a4_g hbp0_4384 a4_k a4_h) (by rintro v H' ⟨bk0_4393, h_0, rfl, rfl⟩; exact ⟨[bk0_4393, a4_g], rfl, bk0_4393, h_0, rfl, rfl⟩)) rfl rfl ?_
          rintro _ _ ⟨bk0_4393, hB_4394, rfl, rfl⟩
          refine VO.t (t_move rfl rfl) rfl rfl (VO.t (v := .int .i64 rv_4389) (t_extract rfl rfl rfl) rfl rfl (VO.t (v := .int .i64 rv_4390) (t_extract rfl rfl rfl) rfl rfl (VO.t (v := .int .i64 rv_4389) (t_assign rfl rfl) rfl rfl (VO.t (v := .int .i64 rv_4390) (t_assign rfl rfl) rfl rfl (VO.nil (thenQ_normal (VW.subK (.c 0 rfl (.c 1 rfl (.c 2 rfl (.c 4 rfl (.c 10 rfl (.c 11 rfl (.c 12 rfl (.c 3 rfl (.c 13 rfl (.c 14 rfl .n)))))))))) rfl (VW.seq (VW.seq ?_)))))))))
          refine VW.region (VO.t (t_move rfl rfl) rfl rfl (VO.t (v := .bool (rv_4390 == 2)) (t_cmp rfl rfl rfl (fun _ _ => rfl) rfl) rfl rfl (VO.nil (thenQ_normal (VW.subK (.c 0 rfl (.c 1 rfl (.c 2 rfl (.c 4 rfl (.c 10 rfl (.c 11 rfl (.c 12 rfl (.c 3 rfl (.c 13 rfl (.c 14 rfl (.c 56 rfl .n))))))))))) rfl ?_)))))
          obtain ⟨o_4406, h, hx_4404⟩ := obind h
          refine VW.joinQ (E := List Pr × Int × Int × Seg) (I := fun ⟨bu_4400, pivot_4402, hint_4403, bp0_4401⟩ => (bu_4400, pivot_4402, hint_4403) = o_4406 ∧ Buf 2 (bu_4400.map Pr.c) vp0_4242 bp0_4401 ∧ True) (env' := fun ⟨bu_4400, pivot_4402, hint_4403, bp0_4401⟩ => ⟨[(0, vp0_4242), (1, .int .i64 a_4243), (2, .int .i64 b_4244), (4, .func (.func a4_f) a4_a a4_c), (10, .bool wasBalanced_4246), (11, .bool wasPartitioned_4247), (12, .int .i64 (w64 (b_4244 - a_4243))), (3, .int .i64 limit_4385), (13, .int .i64 pivot_4402), (14, .int .i64 hint_4403)], []⟩) (H' := fun ⟨bu_4400, pivot_4402, hint_4403, bp0_4401⟩ => hq ([bp0_4401, a4_g]) []) ?_ (fun J_4405 => ?_)
          · rintro ⟨bu_4400, pivot_4402, hint_4403, bp0_4401⟩ ⟨ho_, hbp0_4401, _⟩
            subst ho_
            replace h := hx_4404
            clear hx_4404
            try dsimp only at h
            show VW _ _ _ _ ⟨[(0, vp0_4242), (1, .int .i64 a_4243), (2, .int .i64 b_4244), (4, .func (.func a4_f) a4_a a4_c), (10, .bool wasBalanced_4246), (11, .bool wasPartitioned_4247), (12, .int .i64 (w64 (b_4244 - a_4243))), (3, .int .i64 limit_4385), (13, .int .i64 pivot_4402), (14, .int .i64 hint_4403)], []⟩ (hq ([bp0_4401, a4_g]) [])
            refine VW.seq (VW.seq ?_)
            obtain ⟨o_4413, h, hx_4411⟩ := obind h
            refine VW.joinQ (E := Bool × Seg) (I := fun ⟨x_4410, bp0_4409⟩ => x_4410 = o_4413 ∧ Buf 2 (bu_4400.map Pr.c) vp0_4242 bp0_4409 ∧ True) (env' := fun ⟨x_4410, bp0_4409⟩ => ⟨[(0, vp0_4242), (1, .int .i64 a_4243), (2, .int .i64 b_4244), (4, .func (.func a4_f) a4_a a4_c), (10, .bool wasBalanced_4246), (11, .bool wasPartitioned_4247), (12, .int .i64 (w64 (b_4244 - a_4243))), (3, .int .i64 limit_4385), (13, .int .i64 pivot_4402), (75, .bool x_4410)], []⟩) (H' := fun ⟨x_4410, bp0_4409⟩ => hq ([bp0_4409, a4_g]) []) ?_ (fun J_4412 => ?_)
            · rintro ⟨x_4410, bp0_4409⟩ ⟨ho_, hbp0_4409, _⟩
              subst ho_
              replace h := hx_4411
              clear hx_4411
              try dsimp only at h
              show VW _ _ _ _ ⟨[(0, vp0_4242), (1, .int .i64 a_4243), (2, .int .i64 b_4244), (4, .func (.func a4_f) a4_a a4_c), (10, .bool wasBalanced_4246), (11, .bool wasPartitioned_4247), (12, .int .i64 (w64 (b_4244 - a_4243))), (3, .int .i64 limit_4385), (13, .int .i64 pivot_4402), (75, .bool x_4410)], []⟩ (hq ([bp0_4409, a4_g]) [])
              obtain ⟨o_4425, h, hx_4423⟩ := obind h
              refine VW.joinQ (E := List Pr × Seg) (I := fun ⟨bu_4421, bp0_4422⟩ => Sum.inl bu_4421 = o_4425 ∧ Buf 2 (bu_4421.map Pr.c) vp0_4242 bp0_4422 ∧ True) (env' := fun ⟨bu_4421, bp0_4422⟩ => ⟨[(0, vp0_4242), (1, .int .i64 a_4243), (2, .int .i64 b_4244), (4, .func (.func a4_f) a4_a a4_c), (10, .bool wasBalanced_4246), (11, .bool wasPartitioned_4247), (12, .int .i64 (w64 (b_4244 - a_4243))), (3, .int .i64 limit_4385), (13, .int .i64 pivot_4402)], []⟩) (H' := fun ⟨bu_4421, bp0_4422⟩ => hq ([bp0_4422, a4_g]) []) ?_ (fun J_4424 => ?_)
              · rintro ⟨bu_4421, bp0_4422⟩ ⟨ho_, hbp0_4422, _⟩
                subst ho_
                replace h := hx_4423
                clear hx_4423
                try dsimp only at h
                show VW _ _ _ _ ⟨[(0, vp0_4242), (1, .int .i64 a_4243), (2, .int .i64 b_4244), (4, .func (.func a4_f) a4_a a4_c), (10, .bool wasBalanced_4246), (11, .bool wasPartitioned_4247), (12, .int .i64 (w64 (b_4244 - a_4243))), (3, .int .i64 limit_4385), (13, .int .i64 pivot_4402)], []⟩ (hq ([bp0_4422, a4_g]) [])
                refine VW.seq (VW.seq ?_)
                obtain ⟨o_4436, h, hx_4434⟩ := obind h
                refine VW.joinQ (E := Bool × Seg) (I := fun ⟨x_4433, bp0_4432⟩ => x_4433 = o_4436 ∧ Buf 2 (bu_4421.map Pr.c) vp0_4242 bp0_4432 ∧ True) (env' := fun ⟨x_4433, bp0_4432⟩ => ⟨[(0, vp0_4242), (1, .int .i64 a_4243), (2, .int .i64 b_4244), (4, .func (.func a4_f) a4_a a4_c), (10, .bool wasBalanced_4246), (11, .bool wasPartitioned_4247), (12, .int .i64 (w64 (b_4244 - a_4243))), (3, .int .i64 limit_4385), (13, .int .i64 pivot_4402), (97, .bool x_4433)], []⟩) (H' := fun ⟨x_4433, bp0_4432⟩ => hq ([a4_g, bp0_4432]) []) ?_ (fun J_4435 => ?_)
                · rintro ⟨x_4433, bp0_4432⟩ ⟨ho_, hbp0_4432, _⟩
                  subst ho_
                  replace h := hx_4434
                  clear hx_4434
                  try dsimp only at h
                  show VW _ _ _ _ ⟨[(0, vp0_4242), (1, .int .i64 a_4243), (2, .int .i64 b_4244), (4, .func (.func a4_f) a4_a a4_c), (10, .bool wasBalanced_4246), (11, .bool wasPartitioned_4247), (12, .int .i64 (w64 (b_4244 - a_4243))), (3, .int .i64 limit_4385), (13, .int .i64 pivot_4402), (97, .bool x_4433)], []⟩ (hq ([a4_g, bp0_4432]) [])
                  refine VW.cond (b := x_4433) rfl (fun hc_4437 => ?_) (fun hc_4437 => ?_)
                  · replace h := iteT h hc_4437
                    refine VW.seq (VW.region (VO.t (t_move rfl rfl) rfl rfl (VO.t (t_move rfl rfl) rfl rfl (VO.t (t_move rfl rfl) rfl rfl (VO.t (t_move rfl rfl) rfl rfl (VO.t (t_move rfl rfl) rfl rfl (VO.frontS 0 rfl (VO.frontS 1 rfl ?_))))))))
                    obtain ⟨⟨rv_4438, k_4439⟩, hx_4440, h⟩ := obind h
                    try dsimp only at h
                    refine VO.w (fun v H' => ∃ bk0_4441, Buf 2 (k_4439.map Pr.c) vp0_4242 bk0_4441 ∧ .int .i64 rv_4438 = v ∧ H' = hq ([bk0_4441, a4_g]) []) (w_call_q (sa := [bp0_4432, a4_g]) (sg := []) (tks := []) rfl fn67 rfl ⟨_, _, rfl, rfl, _, _, rfl, rfl, _, _, rfl, rfl, _, _, rfl, rfl, _, _, rfl, rfl, rfl⟩ (slices_partitionEqualCmpFunc_2int_ok _ _ _ _ _ _ hx_4440 vp0_4242 bp0_4432 a4_f a4_a a4_c a4_g hbp0_4432 a4_k a4_h) (by rintro v H' ⟨bk0_4441, h_0, rfl, rfl⟩; exact ⟨[bk0_4441, a4_g], rfl, bk0_4441, h_0, rfl, rfl⟩)) rfl rfl ?_
                    rintro _ _ ⟨bk0_4441, hB_4442, rfl, rfl⟩
                    refine VO.t (v := .int .i64 rv_4438) (t_assign rfl rfl) rfl rfl (VO.nil (thenQ_normal (VW.subK (.c 0 rfl (.c 2 rfl (.c 4 rfl (.c 10 rfl (.c 11 rfl (.c 3 rfl (.c 15 rfl .n))))))) rfl (VW.seq (VW.region (VO.t (t_move rfl rfl) rfl rfl (VO.t (v := .int .i64 rv_4438) (t_assign rfl rfl) rfl rfl (VO.nil (thenQ_normal ?_)))))))))
                    refine VW.subK (.c 0 rfl (.c 2 rfl (.c 4 rfl (.c 10 rfl (.c 11 rfl (.c 3 rfl (.c 1 rfl .n))))))) rfl (VW.exit (thenQ_exit (blockQ_hit (thenQ_normal (VL.round ?_)))))
                    refine VW.subK (.c 0 rfl (.c 1 rfl (.c 2 rfl (.c 3 rfl (.c 4 rfl (.c 10 rfl (.c 11 rfl .n))))))) rfl ?_
                    exact ih_slices_pdqsortCmpFunc_2int_l0 _ _ _ _ _ _ _ h a4_f a4_a a4_c a4_g a4_k a4_h _ vp0_4242 bk0_4441 hB_4442 hx0
                  · replace h := iteF h hc_4437
                    refine VW.skip (thenQ_normal (VW.subK (.c 0 rfl (.c 1 rfl (.c 2 rfl (.c 4 rfl (.c 12 rfl (.c 3 rfl (.c 13 rfl .n))))))) rfl (VW.seq (VW.region (VO.t (t_move rfl rfl) rfl rfl (VO.t (t_move rfl rfl) rfl rfl (VO.t (t_move rfl rfl) rfl rfl (VO.t (t_move rfl rfl) rfl rfl (VO.t (t_move rfl rfl) rfl rfl ?_)))))))))
                    refine VO.frontS 0 rfl (VO.frontS 1 rfl ?_)
                    obtain ⟨⟨rv_4443, rv_4444, k_4445⟩, hx_4446, h⟩ := obind h
                    try dsimp only at h
                    refine VO.w (fun v H' => ∃ bk0_4447, Buf 2 (k_4445.map Pr.c) vp0_4242 bk0_4447 ∧ .tup [.int .i64 rv_4443, .bool rv_4444] = v ∧ H' = hq ([bk0_4447, a4_g]) []) (w_call_q (sa := [bp0_4432, a4_g]) (sg := []) (tks := []) rfl fn68 rfl ⟨_, _, rfl, rfl, _, _, rfl, rfl, _, _, rfl, rfl, _, _, rfl, rfl, _, _, rfl, rfl, rfl⟩ (slices_partitionCmpFunc_2int_ok _ _ _ _ _ _ hx_4446 vp0_4242 bp0_4432 a4_f a4_a a4_c a4_g hbp0_4432 a4_k a4_h) (by rintro v H' ⟨bk0_4447, h_0, rfl, rfl⟩; exact ⟨[bk0_4447, a4_g], rfl, bk0_4447, h_0, rfl, rfl⟩)) rfl rfl ?_
                    rintro _ _ ⟨bk0_4447, hB_4448, rfl, rfl⟩
                    refine VO.t (t_move rfl rfl) rfl rfl (VO.t (v := .int .i64 rv_4443) (t_extract rfl rfl rfl) rfl rfl (VO.t (v := .bool rv_4444) (t_extract rfl rfl rfl) rfl rfl (VO.t (v := .int .i64 rv_4443) (t_assign rfl rfl) rfl rfl (VO.t (v := .bool rv_4444) (t_assign rfl rfl) rfl rfl (VO.nil (thenQ_normal (VW.subK (.c 0 rfl (.c 1 rfl (.c 2 rfl (.c 4 rfl (.c 12 rfl (.c 3 rfl (.c 16 rfl (.c 17 rfl .n)))))))) rfl (VW.seq (VW.region ?_)))))))))
                    refine VO.t (t_move rfl rfl) rfl rfl (VO.t (v := .bool rv_4444) (t_assign rfl rfl) rfl rfl (VO.nil (thenQ_normal (VW.subK (.c 0 rfl (.c 1 rfl (.c 2 rfl (.c 4 rfl (.c 12 rfl (.c 3 rfl (.c 16 rfl (.c 11 rfl .n)))))))) rfl (VW.seq (VW.region (VO.t (t_move rfl rfl) rfl rfl (VO.t (t_move rfl rfl) rfl rfl (VO.t (v := .int .i64 (w64 (rv_4443 - a_4243))) (t_sub rfl rfl rfl rfl) rfl rfl ?_)))))))))
                    refine VO.t (t_move rfl rfl) rfl rfl (VO.t (t_move rfl rfl) rfl rfl (VO.t (v := .int .i64 (w64 (b_4244 - rv_4443))) (t_sub rfl rfl rfl rfl) rfl rfl (VO.t (v := .int .i64 (w64 (rv_4443 - a_4243))) (t_assign rfl rfl) rfl rfl (VO.t (v := .int .i64 (w64 (b_4244 - rv_4443))) (t_assign rfl rfl) rfl rfl (VO.nil (thenQ_normal (VW.subK (.c 0 rfl (.c 1 rfl (.c 2 rfl (.c 4 rfl (.c 12 rfl (.c 3 rfl (.c 16 rfl (.c 11 rfl (.c 18 rfl (.c 19 rfl .n)))))))))) rfl (VW.seq (VW.region ?_)))))))))
                    refine VO.t (t_move rfl rfl) rfl rfl (VO.t (v := .int .i64 (w64 (Int.tdiv (w64 (b_4244 - a_4243)) 8))) (t_quo rfl rfl (fun _ _ => rfl) (by decide) rfl) rfl rfl (VO.t (v := .int .i64 (w64 (Int.tdiv (w64 (b_4244 - a_4243)) 8))) (t_assign rfl rfl) rfl rfl (VO.nil (thenQ_normal (VW.subK (.c 0 rfl (.c 1 rfl (.c 2 rfl (.c 4 rfl (.c 3 rfl (.c 16 rfl (.c 11 rfl (.c 18 rfl (.c 19 rfl (.c 20 rfl .n)))))))))) rfl (VW.seq (VW.region (VO.t (t_move rfl rfl) rfl rfl (VO.t (t_move rfl rfl) rfl rfl ?_)))))))))
                    refine VO.t (v := .bool (decide ((w64 (rv_4443 - a_4243)) < (w64 (b_4244 - rv_4443))))) (t_cmp rfl rfl rfl rfl rfl) rfl rfl (VO.nil (thenQ_normal (VW.subK (.c 0 rfl (.c 1 rfl (.c 2 rfl (.c 4 rfl (.c 3 rfl (.c 16 rfl (.c 11 rfl (.c 18 rfl (.c 19 rfl (.c 20 rfl (.c 125 rfl .n))))))))))) rfl ?_)))
                    refine VW.cond (b := (decide ((w64 (rv_4443 - a_4243)) < (w64 (b_4244 - rv_4443))))) rfl (fun hc_4450 => ?_) (fun hc_4450 => ?_)
                    · replace h := iteT h hc_4450
                      refine VW.seq (VW.region (VO.t (t_move rfl rfl) rfl rfl (VO.t (t_move rfl rfl) rfl rfl (VO.t (v := .bool (decide ((w64 (rv_4443 - a_4243)) ≥ (w64 (Int.tdiv (w64 (b_4244 - a_4243)) 8))))) (t_cmp rfl rfl rfl rfl rfl) rfl rfl (VO.t (v := .bool (decide ((w64 (rv_4443 - a_4243)) ≥ (w64 (Int.tdiv (w64 (b_4244 - a_4243)) 8))))) (t_assign rfl rfl) rfl rfl (VO.nil (thenQ_normal (VW.subK (.c 0 rfl (.c 1 rfl (.c 2 rfl (.c 4 rfl (.c 3 rfl (.c 16 rfl (.c 11 rfl (.c 10 rfl .n)))))))) rfl (VW.seq ?_)))))))))
                      refine VW.region (VO.t (t_move rfl rfl) rfl rfl (VO.t (t_move rfl rfl) rfl rfl (VO.t (t_move rfl rfl) rfl rfl (VO.t (t_move rfl rfl) rfl rfl (VO.t (t_move rfl rfl) rfl rfl ?_)))))
                      obtain ⟨k_4451, hx_4452, h⟩ := obind h
                      refine VO.w (fun v H' => ∃ bk0_4453, Buf 2 (k_4451.map Pr.c) vp0_4242 bk0_4453 ∧ .tup [] = v ∧ H' = hq ([bk0_4453, a4_g]) []) (w_call_q (sa := [bk0_4447, a4_g]) (sg := []) (tks := []) rfl fn54 rfl ⟨_, _, rfl, rfl, _, _, rfl, rfl, _, _, rfl, rfl, _, _, rfl, rfl, _, _, rfl, rfl, rfl⟩ (ih_slices_pdqsortCmpFunc_2int _ _ _ _ _ hx_4452 vp0_4242 bk0_4447 a4_f a4_a a4_c a4_g hB_4448 a4_k a4_h) (by rintro v H' ⟨bk0_4453, h_0, rfl, rfl⟩; exact ⟨[bk0_4453, a4_g], rfl, bk0_4453, h_0, rfl, rfl⟩)) rfl rfl ?_
                      rintro _ _ ⟨bk0_4453, hB_4454, rfl, rfl⟩
                      refine VO.nil (thenQ_normal (VW.subK (.c 0 rfl (.c 2 rfl (.c 4 rfl (.c 3 rfl (.c 16 rfl (.c 11 rfl (.c 10 rfl .n))))))) rfl (VW.region (VO.t (t_move rfl rfl) rfl rfl (VO.t (v := .int .i64 (w64 (rv_4443 + 1))) (t_add rfl rfl (fun _ _ => rfl) rfl) rfl rfl (VO.t (v := .int .i64 (w64 (rv_4443 + 1))) (t_assign rfl rfl) rfl rfl (VO.nil (blockQ_normal (thenQ_normal (VL.round ?_))))))))))
                      refine VW.subK (.c 0 rfl (.c 1 rfl (.c 2 rfl (.c 3 rfl (.c 4 rfl (.c 10 rfl (.c 11 rfl .n))))))) rfl ?_
                      exact ih_slices_pdqsortCmpFunc_2int_l0 _ _ _ _ _ _ _ h a4_f a4_a a4_c a4_g a4_k a4_h _ vp0_4242 bk0_4453 hB_4454 hx0
                    · replace h := iteF h hc_4450
                      refine VW.seq (VW.region (VO.t (t_move rfl rfl) rfl rfl (VO.t (t_move rfl rfl) rfl rfl (VO.t (v := .bool (decide ((w64 (b_4244 - rv_4443)) ≥ (w64 (Int.tdiv (w64 (b_4244 - a_4243)) 8))))) (t_cmp rfl rfl rfl rfl rfl) rfl rfl (VO.t (v := .bool (decide ((w64 (b_4244 - rv_4443)) ≥ (w64 (Int.tdiv (w64 (b_4244 - a_4243)) 8))))) (t_assign rfl rfl) rfl rfl (VO.nil (thenQ_normal (VW.subK (.c 0 rfl (.c 1 rfl (.c 2 rfl (.c 4 rfl (.c 3 rfl (.c 16 rfl (.c 11 rfl (.c 10 rfl .n)))))))) rfl (VW.seq ?_)))))))))
                      refine VW.region (VO.t (t_move rfl rfl) rfl rfl (VO.t (t_move rfl rfl) rfl rfl (VO.t (v := .int .i64 (w64 (rv_4443 + 1))) (t_add rfl rfl (fun _ _ => rfl) rfl) rfl rfl (VO.t (t_move rfl rfl) rfl rfl (VO.t (t_move rfl rfl) rfl rfl (VO.t (t_move rfl rfl) rfl rfl ?_))))))
                      obtain ⟨k_4455, hx_4456, h⟩ := obind h
                      refine VO.w (fun v H' => ∃ bk0_4457, Buf 2 (k_4455.map Pr.c) vp0_4242 bk0_4457 ∧ .tup [] = v ∧ H' = hq ([bk0_4457, a4_g]) []) (w_call_q (sa := [bk0_4447, a4_g]) (sg := []) (tks := []) rfl fn54 rfl ⟨_, _, rfl, rfl, _, _, rfl, rfl, _, _, rfl, rfl, _, _, rfl, rfl, _, _, rfl, rfl, rfl⟩ (ih_slices_pdqsortCmpFunc_2int _ _ _ _ _ hx_4456 vp0_4242 bk0_4447 a4_f a4_a a4_c a4_g hB_4448 a4_k a4_h) (by rintro v H' ⟨bk0_4457, h_0, rfl, rfl⟩; exact ⟨[bk0_4457, a4_g], rfl, bk0_4457, h_0, rfl, rfl⟩)) rfl rfl ?_
                      rintro _ _ ⟨bk0_4457, hB_4458, rfl, rfl⟩
                      refine VO.nil (thenQ_normal (VW.subK (.c 0 rfl (.c 1 rfl (.c 4 rfl (.c 3 rfl (.c 16 rfl (.c 11 rfl (.c 10 rfl .n))))))) rfl (VW.region (VO.t (t_move rfl rfl) rfl rfl (VO.t (v := .int .i64 rv_4443) (t_assign rfl rfl) rfl rfl (VO.nil (blockQ_normal (thenQ_normal (VL.round ?_)))))))))
                      refine VW.subK (.c 0 rfl (.c 1 rfl (.c 2 rfl (.c 3 rfl (.c 4 rfl (.c 10 rfl (.c 11 rfl .n))))))) rfl ?_
                      exact ih_slices_pdqsortCmpFunc_2int_l0 _ _ _ _ _ _ _ h a4_f a4_a a4_c a4_g a4_k a4_h _ vp0_4242 bk0_4457 hB_4458 hx0
                · refine VW.draw 17 mix rfl (VA.t (i := 0) rfl (t_move rfl rfl) (.inl rfl) (by kernel_rfl) (VA.t (i := 1) (v := .bool (decide (a_4243 > 0))) rfl (t_cmp rfl rfl rfl (fun _ _ => rfl) rfl) (.inl rfl) (by kernel_rfl) (VA.t (i := 2) rfl (t_move rfl rfl) (.inl rfl) (by kernel_rfl) ?_)))
                  refine VA.caseB (d := 83) (b := (decide (a_4243 > 0))) rfl (fun hc_4459 => ?_) (fun hc_4459 => ?_)
                  · replace h := iteT h hc_4459
                    refine VA.phase (g := 4) [3, 4, 5, 6, 7, 8, 9, 10, 11, 12] 10 (VP.take (i := 3) rfl (TOp.r (t_move rfl rfl)) (.inr ⟨_, _, _, rfl, rfl, rfl⟩) (by kernel_rfl) (VP.take (i := 4) rfl (TOp.r (t_move rfl rfl)) (.inr ⟨_, _, _, rfl, rfl, rfl⟩) (by kernel_rfl) (VP.take (i := 5) rfl (TOp.r (t_move rfl rfl)) (.inr ⟨_, _, _, rfl, rfl, rfl⟩) (by kernel_rfl) (VP.take (i := 6) (v := .int .i64 (w64 (a_4243 - 1))) rfl (TOp.r (t_sub rfl rfl (fun _ _ => rfl) rfl)) (.inr ⟨_, _, _, rfl, rfl, rfl⟩) (by kernel_rfl) ?_))))
                    obtain ⟨c_4460, hc_4460, h⟩ := obind h
                    obtain ⟨ob_4461, cap_4461, len_4461, sl_4461, rfl, rfl, hE_4461, hl_4461, hc_4461, hs_4461⟩ := buf_at hbp0_4422 hc_4460
                    refine VP.take (i := 7) (v := .ptr ob_4461 ((w64 (a_4243 - 1)).toNat * 2 + 0)) rfl (TOp.r (t_index_own rfl sl22 rfl rfl (getI_some hc_4460).1 (by rw [hl_4461]; exact getI_lt hc_4460) rfl)) (.inr ⟨_, _, _, rfl, rfl, rfl⟩) (by kernel_rfl) (VP.take (i := 8) (v := .agg [.int .i64 c_4460.x0, .int .i64 c_4460.x1]) rfl (r_load_buf (n := 2) (f := 0) (j := 0) rfl sz49 rfl rfl hE_4461 (map_get (getI_some hc_4460).2 (Pr.c_eq c_4460)) (Nat.le_of_ble_eq_true rfl) (fun _ => ofCells_agg rfl)) (.inr ⟨_, _, _, rfl, rfl, rfl⟩) (by kernel_rfl) (VP.take (i := 9) rfl (TOp.r (t_move rfl rfl)) (.inr ⟨_, _, _, rfl, rfl, rfl⟩) (by kernel_rfl) (VP.take (i := 10) rfl (TOp.r (t_move rfl rfl)) (.inr ⟨_, _, _, rfl, rfl, rfl⟩) (by kernel_rfl) ?_)))
                    obtain ⟨c_4462, hc_4462, h⟩ := obind h
                    refine VP.take (i := 11) (v := .ptr ob_4461 (pivot_4402.toNat * 2 + 0)) rfl (TOp.r (t_index_own rfl sl22 rfl rfl (getI_some hc_4462).1 (by rw [hl_4461]; exact getI_lt hc_4462) rfl)) (.inr ⟨_, _, _, rfl, rfl, rfl⟩) (by kernel_rfl) (VP.take (i := 12) (v := .agg [.int .i64 c_4462.x0, .int .i64 c_4462.x1]) rfl (r_load_buf (n := 2) (f := 0) (j := 0) rfl sz49 rfl rfl hE_4461 (map_get (getI_some hc_4462).2 (Pr.c_eq c_4462)) (Nat.le_of_ble_eq_true rfl) (fun _ => ofCells_agg rfl)) (.inr ⟨_, _, _, rfl, rfl, rfl⟩) (by kernel_rfl) (VP.done (by kernel_rfl) (VA.frontS 1 rfl ?_)))
                    obtain ⟨rv_4463, hx_4464, h⟩ := obind h
                    refine VA.w (i := 13) (fun v H' => .int .i64 rv_4463 = v ∧ H' = hq ([a4_g, [(ob_4461, .cells ((bu_4421.map Pr.c).flatten ++ sl_4461))]]) []) rfl (w_call_q (sa := [a4_g]) (sg := [[(ob_4461, .cells ((bu_4421.map Pr.c).flatten ++ sl_4461))]]) (tks := []) rfl a4_k rfl ⟨_, _, rfl, rfl, _, _, rfl, rfl, rfl⟩ (a4_h _ _ _ hx_4464) (by rintro v H' ⟨rfl, rfl⟩; exact ⟨[a4_g], rfl, rfl, rfl⟩)) (.inr ⟨_, _, _, rfl, rfl, rfl⟩) (by kernel_rfl) rfl ?_
                    rintro _ _ ⟨rfl, rfl⟩
                    refine VA.t (i := 14) (v := .bool (decide (rv_4463 < 0))) rfl (t_cmp rfl rfl rfl (fun _ _ => rfl) rfl) (.inr ⟨_, _, _, rfl, rfl, rfl⟩) (by kernel_rfl) (VA.t (i := 15) (v := .bool (!(decide (rv_4463 < 0)))) rfl (t_not rfl rfl rfl) (.inr ⟨_, _, _, rfl, rfl, rfl⟩) (by kernel_rfl) (VA.t (i := 16) (v := .bool (!(decide (rv_4463 < 0)))) rfl (t_pick (b := true) rfl rfl (fun _ => rfl) (fun h => by cases h)) (.inl rfl) (by kernel_rfl) (VA.subN (t' := [(0, .own ob_4461 cap_4461 len_4461), (1, .int .i64 a_4243), (2, .int .i64 b_4244), (4, .func (.func a4_f) a4_a a4_c), (10, .bool wasBalanced_4246), (11, .bool wasPartitioned_4247), (12, .int .i64 (w64 (b_4244 - a_4243))), (3, .int .i64 limit_4385), (13, .int .i64 pivot_4402), (97, .bool (!(decide (rv_4463 < 0))))]) ⟨⟨_, rfl, VLe.refl _⟩, ⟨_, rfl, VLe.refl _⟩, ⟨_, rfl, VLe.refl _⟩, ⟨_, rfl, VLe.refl _⟩, ⟨_, rfl, VLe.refl _⟩, ⟨_, rfl, VLe.refl _⟩, ⟨_, rfl, VLe.refl _⟩, ⟨_, rfl, VLe.refl _⟩, ⟨_, rfl, VLe.refl _⟩, ⟨_, rfl, VLe.refl _⟩, trivial⟩ rfl (VA.done (by kernel_rfl) ?_))))
                    exact thenQ_normal (J_4435 ⟨!(decide (rv_4463 < 0)), [(ob_4461, .cells ((bu_4421.map Pr.c).flatten ++ sl_4461))]⟩ ⟨Option.some.inj h, (Buf.own (n := 2) (l := bu_4421.map Pr.c) ob_4461 cap_4461 len_4461 sl_4461 (elemsOK_map Pr.c_ok _) (by simp [hl_4461]) hc_4461 hs_4461), trivial⟩)
                  · replace h := iteF h hc_4459
                    refine VA.skip (i := 3) rfl rfl rfl rfl rfl (by kernel_rfl) (VA.skip (i := 4) rfl rfl rfl rfl rfl (by kernel_rfl) (VA.skip (i := 5) rfl rfl rfl rfl rfl (by kernel_rfl) (VA.skip (i := 6) rfl rfl rfl rfl rfl (by kernel_rfl) (VA.skip (i := 7) rfl rfl rfl rfl rfl (by kernel_rfl) (VA.skip (i := 8) rfl rfl rfl rfl rfl (by kernel_rfl) (VA.skip (i := 9) rfl rfl rfl rfl rfl (by kernel_rfl) (VA.skip (i := 10) rfl rfl rfl rfl rfl (by kernel_rfl) (VA.skip (i := 11) rfl rfl rfl rfl rfl (by kernel_rfl) (VA.skip (i := 12) rfl rfl rfl rfl rfl (by kernel_rfl) ?_)))))))))
                    refine VA.skip (i := 13) rfl rfl rfl rfl rfl (by kernel_rfl) (VA.skip (i := 14) rfl rfl rfl rfl rfl (by kernel_rfl) (VA.skip (i := 15) rfl rfl rfl rfl rfl (by kernel_rfl) (VA.t (i := 16) (v := .bool false) rfl (t_pick (b := false) rfl rfl (fun h => by cases h) (fun _ => (fun _ _ => rfl))) (.inl rfl) (by kernel_rfl) (VA.subN (t' := [(0, vp0_4242), (1, .int .i64 a_4243), (2, .int .i64 b_4244), (4, .func (.func a4_f) a4_a a4_c), (10, .bool wasBalanced_4246), (11, .bool wasPartitioned_4247), (12, .int .i64 (w64 (b_4244 - a_4243))), (3, .int .i64 limit_4385), (13, .int .i64 pivot_4402), (97, .bool false)]) ⟨⟨_, rfl, VLe.refl _⟩, ⟨_, rfl, VLe.refl _⟩, ⟨_, rfl, VLe.refl _⟩, ⟨_, rfl, VLe.refl _⟩, ⟨_, rfl, VLe.refl _⟩, ⟨_, rfl, VLe.refl _⟩, ⟨_, rfl, VLe.refl _⟩, ⟨_, rfl, VLe.refl _⟩, ⟨_, rfl, VLe.refl _⟩, ⟨_, rfl, VLe.refl _⟩, trivial⟩ rfl (VA.frontS 0 rfl (VA.frontS 1 rfl (VA.done (by kernel_rfl) ?_)))))))
                    exact thenQ_normal (J_4435 ⟨false, bp0_4422⟩ ⟨Option.some.inj h, hbp0_4422, trivial⟩)
              · refine VW.cond (b := x_4410) rfl (fun hc_4465 => ?_) (fun hc_4465 => ?_)
                · replace h := iteT h hc_4465
                  refine VW.seq (VW.region (VO.t (t_move rfl rfl) rfl rfl (VO.t (t_move rfl rfl) rfl rfl (VO.t (t_move rfl rfl) rfl rfl (VO.t (t_move rfl rfl) rfl rfl ?_)))))
                  obtain ⟨⟨rv_4466, k_4467⟩, hx_4468, h⟩ := obind h
                  try dsimp only at h
                  refine VO.w (fun v H' => ∃ bk0_4469, Buf 2 (k_4467.map Pr.c) vp0_4242 bk0_4469 ∧ .bool rv_4466 = v ∧ H' = hq ([bk0_4469, a4_g]) []) (w_call_q (sa := [bp0_4409, a4_g]) (sg := []) (tks := []) rfl fn66 rfl ⟨_, _, rfl, rfl, _, _, rfl, rfl, _, _, rfl, rfl, _, _, rfl, rfl, rfl⟩ (slices_partialInsertionSortCmpFunc_2int_ok _ _ _ _ _ hx_4468 vp0_4242 bp0_4409 a4_f a4_a a4_c a4_g hbp0_4409 a4_k a4_h) (by rintro v H' ⟨bk0_4469, h_0, rfl, rfl⟩; exact ⟨[bk0_4469, a4_g], rfl, bk0_4469, h_0, rfl, rfl⟩)) rfl rfl ?_
                  rintro _ _ ⟨bk0_4469, hB_4470, rfl, rfl⟩
                  refine VO.nil (thenQ_normal (VW.subK (.c 0 rfl (.c 1 rfl (.c 2 rfl (.c 4 rfl (.c 10 rfl (.c 11 rfl (.c 12 rfl (.c 3 rfl (.c 13 rfl (.c 80 rfl .n)))))))))) rfl ?_))
                  refine VW.cond (b := rv_4466) rfl (fun hc_4471 => ?_) (fun hc_4471 => ?_)
                  · replace h := iteT h hc_4471
                    refine VW.subN (t' := []) trivial rfl (VW.subN (t' := []) trivial rfl (VW.ret ?_))
                    obtain ⟨z_4472, hz_4473, h⟩ := obind h
                    have h := Option.some.inj h
                    subst h
                    try dsimp only at hx_4423
                    have hx_4423 := Option.some.inj hx_4423
                    subst hx_4423
                    have h := hz_4473
                    refine thenQ_ret (blockQ_ret (thenQ_ret ?_))
                    have h := Option.some.inj h
                    subst h
                    exact hx0 _ bk0_4469 rfl hB_4470
                  · replace h := iteF h hc_4471
                    refine VW.subK (.c 0 rfl (.c 1 rfl (.c 2 rfl (.c 4 rfl (.c 10 rfl (.c 11 rfl (.c 12 rfl (.c 3 rfl (.c 13 rfl .n))))))))) rfl (VW.skip ?_)
                    exact thenQ_normal (J_4424 ⟨k_4467, bk0_4469⟩ ⟨Option.some.inj h, hB_4470, trivial⟩)
                · replace h := iteF h hc_4465
                  refine VW.subK (.c 0 rfl (.c 1 rfl (.c 2 rfl (.c 4 rfl (.c 10 rfl (.c 11 rfl (.c 12 rfl (.c 3 rfl (.c 13 rfl .n))))))))) rfl (VW.skip ?_)
                  exact thenQ_normal (J_4424 ⟨bu_4400, bp0_4409⟩ ⟨Option.some.inj h, hbp0_4409, trivial⟩)
            · refine VW.region (VO.t (t_move rfl rfl) rfl rfl (VO.t (t_move rfl rfl) rfl rfl ?_))
              refine VO.caseB (d := 69) (b := wasBalanced_4246) rfl (fun hc_4474 => ?_) (fun hc_4474 => ?_)
              · replace h := iteT h hc_4474
                refine VO.gt (v := .bool wasPartitioned_4247) (t_move rfl rfl) rfl rfl rfl rfl (VO.t (v := .bool wasPartitioned_4247) (t_pick (b := true) rfl rfl (fun _ => rfl) (fun h => by cases h)) rfl rfl (VO.t (t_move rfl rfl) rfl rfl ?_))
                refine VO.caseB (d := 72) (b := wasPartitioned_4247) rfl (fun hc_4475 => ?_) (fun hc_4475 => ?_)
                · replace h := iteT h hc_4475
                  refine VO.gt (v := .int .i64 hint_4403) (t_move rfl rfl) rfl rfl rfl rfl (VO.gt (v := .bool (hint_4403 == 1)) (t_cmp rfl rfl rfl (fun _ _ => rfl) rfl) rfl rfl rfl rfl (VO.t (v := .bool (hint_4403 == 1)) (t_pick (b := true) rfl rfl (fun _ => rfl) (fun h => by cases h)) rfl rfl (VO.subK (.c 0 rfl (.c 1 rfl (.c 2 rfl (.c 4 rfl (.c 10 rfl (.c 11 rfl (.c 12 rfl (.c 3 rfl (.c 13 rfl (.c 75 rfl .n)))))))))) rfl (VO.nil ?_))))
                  exact thenQ_normal (J_4412 ⟨hint_4403 == 1, bp0_4401⟩ ⟨Option.some.inj h, hbp0_4401, trivial⟩)
                · replace h := iteF h hc_4475
                  refine VO.gskip rfl rfl rfl rfl rfl (VO.gskip rfl rfl rfl rfl rfl (VO.t (v := .bool false) (t_pick (b := false) rfl rfl (fun h => by cases h) (fun _ => (fun _ _ => rfl))) rfl rfl (VO.subK (.c 0 rfl (.c 1 rfl (.c 2 rfl (.c 4 rfl (.c 10 rfl (.c 11 rfl (.c 12 rfl (.c 3 rfl (.c 13 rfl (.c 75 rfl .n)))))))))) rfl (VO.nil ?_))))
                  exact thenQ_normal (J_4412 ⟨false, bp0_4401⟩ ⟨Option.some.inj h, hbp0_4401, trivial⟩)
              · replace h := iteF h hc_4474
                refine VO.gskip rfl rfl rfl rfl rfl (VO.t (v := .bool false) (t_pick (b := false) rfl rfl (fun h => by cases h) (fun _ => (fun _ _ => rfl))) rfl rfl (VO.t (t_move rfl rfl) rfl rfl (VO.gskip rfl rfl rfl rfl rfl (VO.gskip rfl rfl rfl rfl rfl (VO.t (v := .bool false) (t_pick (b := false) rfl rfl (fun h => by cases h) (fun _ => (fun _ _ => rfl))) rfl rfl (VO.subK (.c 0 rfl (.c 1 rfl (.c 2 rfl (.c 4 rfl (.c 10 rfl (.c 11 rfl (.c 12 rfl (.c 3 rfl (.c 13 rfl (.c 75 rfl .n)))))))))) rfl (VO.nil ?_)))))))
                exact thenQ_normal (J_4412 ⟨false, bp0_4401⟩ ⟨Option.some.inj h, hbp0_4401, trivial⟩)
          · refine VW.cond (b := (rv_4390 == 2)) rfl (fun hc_4476 => ?_) (fun hc_4476 => ?_)
            · replace h := iteT h hc_4476
              refine VW.seq (VW.region (VO.t (t_move rfl rfl) rfl rfl (VO.t (t_move rfl rfl) rfl rfl (VO.t (t_move rfl rfl) rfl rfl (VO.t (t_move rfl rfl) rfl rfl ?_)))))
              obtain ⟨k_4477, hx_4478, h⟩ := obind h
              refine VO.w (fun v H' => ∃ bk0_4479, Buf 2 (k_4477.map Pr.c) vp0_4242 bk0_4479 ∧ .tup [] = v ∧ H' = hq ([bk0_4479, a4_g]) []) (w_call_q (sa := [bk0_4393, a4_g]) (sg := []) (tks := []) rfl fn65 rfl ⟨_, _, rfl, rfl, _, _, rfl, rfl, _, _, rfl, rfl, _, _, rfl, rfl, rfl⟩ (slices_reverseRangeCmpFunc_2int_ok _ _ _ _ _ hx_4478 vp0_4242 bk0_4393 a4_f a4_a a4_c a4_g hB_4394 a4_k a4_h) (by rintro v H' ⟨bk0_4479, h_0, rfl, rfl⟩; exact ⟨[bk0_4479, a4_g], rfl, bk0_4479, h_0, rfl, rfl⟩)) rfl rfl ?_
              rintro _ _ ⟨bk0_4479, hB_4480, rfl, rfl⟩
              refine VO.nil (thenQ_normal (VW.subK (.c 0 rfl (.c 1 rfl (.c 2 rfl (.c 4 rfl (.c 10 rfl (.c 11 rfl (.c 12 rfl (.c 3 rfl (.c 13 rfl .n))))))))) rfl (VW.seq (VW.region (VO.t (t_move rfl rfl) rfl rfl (VO.t (v := .int .i64 (w64 (b_4244 - 1))) (t_sub rfl rfl (fun _ _ => rfl) rfl) rfl rfl (VO.t (t_move rfl rfl) rfl rfl (VO.t (t_move rfl rfl) rfl rfl (VO.t (v := .int .i64 (w64 (rv_4389 - a_4243))) (t_sub rfl rfl rfl rfl) rfl rfl ?_)))))))))
              refine VO.t (v := .int .i64 (w64 ((w64 (b_4244 - 1)) - (w64 (rv_4389 - a_4243))))) (t_sub rfl rfl rfl rfl) rfl rfl (VO.t (v := .int .i64 (w64 ((w64 (b_4244 - 1)) - (w64 (rv_4389 - a_4243))))) (t_assign rfl rfl) rfl rfl (VO.nil (thenQ_normal (VW.subK (.c 0 rfl (.c 1 rfl (.c 2 rfl (.c 4 rfl (.c 10 rfl (.c 11 rfl (.c 12 rfl (.c 3 rfl (.c 13 rfl .n))))))))) rfl (VW.region (VO.t (v := .int .i64 1) (t_assign rfl (fun _ _ => rfl)) rfl rfl (VO.subK (.c 0 rfl (.c 1 rfl (.c 2 rfl (.c 4 rfl (.c 10 rfl (.c 11 rfl (.c 12 rfl (.c 3 rfl (.c 13 rfl (.c 14 rfl .n)))))))))) rfl (VO.nil ?_))))))))
              exact thenQ_normal (J_4405 ⟨k_4477, w64 ((w64 (b_4244 - 1)) - (w64 (rv_4389 - a_4243))), 1, bk0_4479⟩ ⟨Option.some.inj h, hB_4480, trivial⟩)
            · replace h := iteF h hc_4476
              refine VW.subK (.c 0 rfl (.c 1 rfl (.c 2 rfl (.c 4 rfl (.c 10 rfl (.c 11 rfl (.c 12 rfl (.c 3 rfl (.c 13 rfl (.c 14 rfl .n)))))))))) rfl (VW.skip ?_)
              exact thenQ_normal (J_4405 ⟨k_4391, rv_4389, rv_4390, bk0_4393⟩ ⟨Option.some.inj h, hB_4394, trivial⟩)
        · refine VW.cond (b := (!wasBalanced_4246)) rfl (fun hc_4481 => ?_) (fun hc_4481 => ?_)
          · replace h := iteT h hc_4481
            refine VW.seq (VW.region (VO.t (t_move rfl rfl) rfl rfl (VO.t (t_move rfl rfl) rfl rfl (VO.t (t_move rfl rfl) rfl rfl (VO.t (t_move rfl rfl) rfl rfl ?_)))))
            obtain ⟨k_4482, hx_4483, h⟩ := obind h
            refine VO.w (fun v H' => ∃ bk0_4484, Buf 2 (k_4482.map Pr.c) vp0_4242 bk0_4484 ∧ .tup [] = v ∧ H' = hq ([bk0_4484, a4_g]) []) (w_call_q (sa := [bp0_4242, a4_g]) (sg := []) (tks := []) rfl fn63 rfl ⟨_, _, rfl, rfl, _, _, rfl, rfl, _, _, rfl, rfl, _, _, rfl, rfl, rfl⟩ (slices_breakPatternsCmpFunc_2int_ok _ _ _ _ _ hx_4483 vp0_4242 bp0_4242 a4_f a4_a a4_c a4_g hbp0_4242 a4_k a4_h) (by rintro v H' ⟨bk0_4484, h_0, rfl, rfl⟩; exact ⟨[bk0_4484, a4_g], rfl, bk0_4484, h_0, rfl, rfl⟩)) rfl rfl ?_
            rintro _ _ ⟨bk0_4484, hB_4485, rfl, rfl⟩
            refine VO.nil (thenQ_normal (VW.subK (.c 0 rfl (.c 1 rfl (.c 2 rfl (.c 3 rfl (.c 4 rfl (.c 10 rfl (.c 11 rfl (.c 12 rfl .n)))))))) rfl (VW.region (VO.t (t_move rfl rfl) rfl rfl (VO.t (v := .int .i64 (w64 (limit_4245 - 1))) (t_sub rfl rfl (fun _ _ => rfl) rfl) rfl rfl (VO.t (v := .int .i64 (w64 (limit_4245 - 1))) (t_assign rfl rfl) rfl rfl (VO.subK (.c 0 rfl (.c 1 rfl (.c 2 rfl (.c 4 rfl (.c 10 rfl (.c 11 rfl (.c 12 rfl (.c 3 rfl .n)))))))) rfl (VO.nil ?_))))))))
            exact thenQ_normal (J_4387 ⟨k_4482, w64 (limit_4245 - 1), bk0_4484⟩ ⟨Option.some.inj h, hB_4485, trivial⟩)
          · replace h := iteF h hc_4481
            refine VW.subK (.c 0 rfl (.c 1 rfl (.c 2 rfl (.c 4 rfl (.c 10 rfl (.c 11 rfl (.c 12 rfl (.c 3 rfl .n)))))))) rfl (VW.skip ?_)
            exact thenQ_normal (J_4387 ⟨bu_4241, limit_4245, bp0_4242⟩ ⟨Option.some.inj h, hbp0_4242, trivial⟩)
  · intro _ ih_slices_pdqsortCmpFunc_2int_l0 a0 a1 a2 a3 r h v0 b0 a4_f a4_a a4_c a4_g hB0 a4_k a4_h
    refine VCalls.of_body 148 [] Try.func54 rfl rfl rfl (Nat.le_of_ble_eq_true rfl) (VW.subK (.c 0 rfl (.c 1 rfl (.c 2 rfl (.c 3 rfl (.c 4 rfl .n))))) rfl (VW.seq (VW.region (VO.t (v := .bool true) (t_assign rfl (fun _ _ => rfl)) rfl rfl (VO.nil (thenQ_normal (VW.seq (VW.region (VO.t (v := .bool true) (t_assign rfl (fun _ _ => rfl)) rfl rfl ?_)))))))))
    refine VO.nil (thenQ_normal (VW.block (VW.subK (.c 0 rfl (.c 1 rfl (.c 2 rfl (.c 3 rfl (.c 4 rfl (.c 10 rfl (.c 11 rfl .n))))))) rfl ?_)))
    obtain ⟨o_4486, hx_4487, h⟩ := obind h
    refine VW.loopL (ih_slices_pdqsortCmpFunc_2int_l0 _ _ _ _ _ _ _ hx_4487 a4_f a4_a a4_c a4_g a4_k a4_h _ v0 b0 hB0 ?_)
    · intro bu_4366 bp0_4367 ho_ hbp0_4367
      subst ho_
      try dsimp only at h
      refine blockQ_ret ?_
      have h := Option.some.inj h
      subst h
      exact ⟨.inr rfl, rfl, _, .tup [], hq [bp0_4367, a4_g] [], rfl, VLe.refl _, hq_sub (.cons_cons _ (.cons_cons _ .slnil)) .slnil, bp0_4367, hbp0_4367, rfl, rfl⟩

theorem slices_SortFunc_2int2int_ok (a0 : List Pr) (a1 : Pr → Pr → Option Int) (r : List Pr) (h : PL.slices_SortFunc_2int2int a0 a1 = some r) (v0 : VV) (b0 : Seg) (a1_f : Nat) (a1_a : List VV) (a1_c : List VV) (a1_g : Seg) (hB0 : Buf 2 (a0.map Pr.c) v0 b0) (a1_k : FnOK Try.prog a1_f) (a1_h : ∀ (y0 : Pr) (y1 : Pr) (z : Int), a1 y0 y1 = some z → VCalls Try.prog a1_f (a1_a ++ [.agg [.int .i64 y0.x0, .int .i64 y0.x1], .agg [.int .i64 y1.x0, .int .i64 y1.x1]] ++ a1_c) (hq [a1_g] []) (fun v H => .int .i64 z = v ∧ H = hq [a1_g] [])) :
    VCalls Try.prog 44 [v0, .func (.func a1_f) a1_a a1_c] (hq [b0, a1_g] []) (fun v H => ∃ bk0, Buf 2 (r.map Pr.c) v0 bk0 ∧ .tup [] = v ∧ H = hq [bk0, a1_g] []) := by
  unfold PL.slices_SortFunc_2int2int at h
  refine VCalls.of_body 14 [] Try.func44 rfl rfl rfl (Nat.le_of_ble_eq_true rfl) (VW.subK (.c 0 rfl (.c 1 rfl .n)) rfl (VW.seq (VW.region (VO.t (t_move rfl rfl) rfl rfl (VO.t (v := .int .i64 (a0.length : Int)) (t_len_buf rfl ⟨_, Try.underlying22⟩ rfl hB0 (by rw [List.length_map])) rfl rfl (VO.t (v := .int .i64 (a0.length : Int)) (t_assign rfl rfl) rfl rfl (VO.nil (thenQ_normal (VW.subK (.c 0 rfl (.c 1 rfl (.c 4 rfl .n))) rfl ?_)))))))))
  refine VW.region (VO.t (t_move rfl rfl) rfl rfl (VO.t (t_move rfl rfl) rfl rfl (VO.t (t_move rfl rfl) rfl rfl (VO.t (v := .int .u64 (IntKind.wrap .u64 ((a0.length : Int)))) (t_conv rfl ⟨_, Try.underlying3⟩ Try.underlying75 rfl rfl) rfl rfl ?_))))
  obtain ⟨rv_4488, hx_4489, h⟩ := obind h
  refine VO.w (fun v H' => .int .i64 rv_4488 = v ∧ H' = hq ([b0, a1_g]) []) (w_call_q (sa := []) (sg := [b0, a1_g]) (tks := []) rfl fn55 rfl ⟨_, _, rfl, rfl, rfl⟩ (math_bits_Len_ok _ _ hx_4489) (by rintro v H' ⟨rfl, rfl⟩; exact ⟨[], rfl, rfl, rfl⟩)) rfl rfl ?_
  rintro _ _ ⟨rfl, rfl⟩
  refine VO.t (t_move rfl rfl) rfl rfl ?_
  obtain ⟨k_4490, hx_4491, h⟩ := obind h
  refine VO.w (fun v H' => ∃ bk0_4492, Buf 2 (k_4490.map Pr.c) v0 bk0_4492 ∧ .tup [] = v ∧ H' = hq ([bk0_4492, a1_g]) []) (w_call_q (sa := [b0, a1_g]) (sg := []) (tks := []) rfl fn54 rfl ⟨_, _, rfl, rfl, .int .i64 0, _, rfl, (fun _ _ => rfl), _, _, rfl, rfl, _, _, rfl, rfl, _, _, rfl, rfl, rfl⟩ (slices_pdqsortCmpFunc_2int_ok _ _ _ _ _ _ hx_4491 v0 b0 a1_f a1_a a1_c a1_g hB0 a1_k a1_h) (by rintro v H' ⟨bk0_4492, h_0, rfl, rfl⟩; exact ⟨[bk0_4492, a1_g], rfl, bk0_4492, h_0, rfl, rfl⟩)) rfl rfl ?_
  rintro _ _ ⟨bk0_4492, hB_4493, rfl, rfl⟩
  refine VO.subN (t' := []) trivial rfl (VO.nil ?_)
  have h := Option.some.inj h
  subst h
  exact ⟨.inl rfl, rfl, _, .tup [], hq [bk0_4492, a1_g] [], rfl, VLe.refl _, hq_sub (.cons_cons _ (.cons_cons _ .slnil)) .slnil, bk0_4492, hB_4493, rfl, rfl⟩

theorem cmp_isNaN_int_ok (a0 : Int) (r : Bool) (h : PL.cmp_isNaN_int a0 = some r) :
    VCalls Try.prog 56 [.int .i64 a0] (hq [] []) (fun v H => .bool r = v ∧ H = hq [] []) := by
  unfold PL.cmp_isNaN_int at h
  refine VCalls.of_body 6 [2] Try.func56 rfl rfl rfl (Nat.le_of_ble_eq_true rfl) (VW.subK (.c 0 rfl .n) rfl (VW.seq (VW.region (VO.t (v := .bool false) (t_assign rfl (fun _ _ => rfl)) rfl rfl (VO.nil (thenQ_normal (VW.subK (.c 0 rfl .n) rfl (VW.seq (VW.region ?_)))))))))
  refine VO.t (t_move rfl rfl) rfl rfl (VO.t (t_move rfl rfl) rfl rfl (VO.t (v := .bool (a0 != a0)) (t_cmp rfl rfl rfl rfl rfl) rfl rfl (VO.t (v := .bool (a0 != a0)) (t_assign rfl rfl) rfl rfl (VO.nil (thenQ_normal (VW.subK (.c 2 rfl .n) rfl (VW.ret ?_)))))))
  have h := Option.some.inj h
  subst h
  exact ⟨.inr rfl, rfl, _, .bool (a0 != a0), hq [] [], rfl, VLe.refl _, hq_sub .slnil .slnil, rfl, rfl⟩

theorem cmp_Compare_int_ok (a0 : Int) (a1 : Int) (r : Int) (h : PL.cmp_Compare_int a0 a1 = some r) :
    VCalls Try.prog 46 [.int .i64 a0, .int .i64 a1] (hq [] []) (fun v H => .int .i64 r = v ∧ H = hq [] []) := by
  unfold PL.cmp_Compare_int at h
  refine VCalls.of_body 20 [4] Try.func46 rfl rfl rfl (Nat.le_of_ble_eq_true rfl) (VW.subK (.c 0 rfl (.c 1 rfl .n)) rfl (VW.seq (VW.region (VO.t (v := .int .i64 0) (t_assign rfl (fun _ _ => rfl)) rfl rfl (VO.nil (thenQ_normal (VW.subK (.c 0 rfl (.c 1 rfl .n)) rfl (VW.seq (VW.region ?_)))))))))
  refine VO.t (t_move rfl rfl) rfl rfl ?_
  obtain ⟨rv_4494, hx_4495, h⟩ := obind h
  refine VO.w (fun v H' => .bool rv_4494 = v ∧ H' = hq [] []) (w_call_q (sa := []) (sg := []) (tks := []) rfl fn56 rfl ⟨_, _, rfl, rfl, rfl⟩ (cmp_isNaN_int_ok _ _ hx_4495) (by rintro v H' ⟨rfl, rfl⟩; exact ⟨[], rfl, rfl, rfl⟩)) rfl rfl ?_
  rintro _ _ ⟨rfl, rfl⟩
  refine VO.t (v := .bool rv_4494) (t_assign rfl rfl) rfl rfl (VO.nil (thenQ_normal (VW.subK (.c 0 rfl (.c 1 rfl (.c 5 rfl .n))) rfl (VW.seq (VW.region (VO.t (t_move rfl rfl) rfl rfl ?_))))))
  obtain ⟨rv_4496, hx_4497, h⟩ := obind h
  refine VO.w (fun v H' => .bool rv_4496 = v ∧ H' = hq [] []) (w_call_q (sa := []) (sg := []) (tks := []) rfl fn56 rfl ⟨_, _, rfl, rfl, rfl⟩ (cmp_isNaN_int_ok _ _ hx_4497) (by rintro v H' ⟨rfl, rfl⟩; exact ⟨[], rfl, rfl, rfl⟩)) rfl rfl ?_
  rintro _ _ ⟨rfl, rfl⟩
  refine VO.t (v := .bool rv_4496) (t_assign rfl rfl) rfl rfl (VO.nil (thenQ_normal (VW.subK (.c 0 rfl (.c 1 rfl (.c 5 rfl (.c 6 rfl .n)))) rfl (VW.seq (VW.seq (VW.region (VO.t (t_move rfl rfl) rfl rfl (VO.nil (thenQ_normal ?_)))))))))
  refine VW.subK (.c 0 rfl (.c 1 rfl (.c 6 rfl (.c 11 rfl .n)))) rfl ?_
  refine VW.cond (b := rv_4494) rfl (fun hc_4498 => ?_) (fun hc_4498 => ?_)
  · replace h := iteT h hc_4498
    refine VW.seq (VW.seq (VW.region (VO.t (t_move rfl rfl) rfl rfl (VO.nil (thenQ_normal (VW.subK (.c 12 rfl .n) rfl ?_))))))
    refine VW.cond (b := rv_4496) rfl (fun hc_4499 => ?_) (fun hc_4499 => ?_)
    · replace h := iteT h hc_4499
      refine VW.seq (VW.region (VO.t (v := .int .i64 0) (t_assign rfl (fun _ _ => rfl)) rfl rfl (VO.nil (thenQ_normal (VW.subK (.c 4 rfl .n) rfl (VW.ret (thenQ_ret (thenQ_ret ?_))))))))
      have h := Option.some.inj h
      subst h
      exact ⟨.inr rfl, rfl, _, .int .i64 0, hq [] [], rfl, VLe.refl _, hq_sub .slnil .slnil, rfl, rfl⟩
    · replace h := iteF h hc_4499
      refine VW.skip (thenQ_normal (VW.subN (t' := []) trivial rfl (VW.seq (VW.region (VO.t (v := .int .i64 (-1)) (t_assign rfl (fun _ _ => rfl)) rfl rfl (VO.nil (thenQ_normal (VW.ret (thenQ_ret ?_)))))))))
      have h := Option.some.inj h
      subst h
      exact ⟨.inr rfl, rfl, _, .int .i64 (-1), hq [] [], rfl, VLe.refl _, hq_sub .slnil .slnil, rfl, rfl⟩
  · replace h := iteF h hc_4498
    refine VW.skip (thenQ_normal (VW.subK (.c 0 rfl (.c 1 rfl (.c 6 rfl .n))) rfl (VW.seq (VW.seq (VW.region (VO.t (t_move rfl rfl) rfl rfl (VO.nil (thenQ_normal (VW.subK (.c 0 rfl (.c 1 rfl (.c 13 rfl .n))) rfl ?_)))))))))
    refine VW.cond (b := rv_4496) rfl (fun hc_4500 => ?_) (fun hc_4500 => ?_)
    · replace h := iteT h hc_4500
      refine VW.seq (VW.region (VO.t (v := .int .i64 1) (t_assign rfl (fun _ _ => rfl)) rfl rfl (VO.nil (thenQ_normal (VW.subK (.c 4 rfl .n) rfl (VW.ret (thenQ_ret ?_)))))))
      have h := Option.some.inj h
      subst h
      exact ⟨.inr rfl, rfl, _, .int .i64 1, hq [] [], rfl, VLe.refl _, hq_sub .slnil .slnil, rfl, rfl⟩
    · replace h := iteF h hc_4500
      refine VW.skip (thenQ_normal (VW.subK (.c 0 rfl (.c 1 rfl .n)) rfl (VW.seq (VW.seq (VW.region (VO.t (t_move rfl rfl) rfl rfl (VO.t (t_move rfl rfl) rfl rfl (VO.t (v := .bool (decide (a0 < a1))) (t_cmp rfl rfl rfl rfl rfl) rfl rfl (VO.nil ?_)))))))))
      refine thenQ_normal (VW.subK (.c 0 rfl (.c 1 rfl (.c 16 rfl .n))) rfl ?_)
      refine VW.cond (b := (decide (a0 < a1))) rfl (fun hc_4501 => ?_) (fun hc_4501 => ?_)
      · replace h := iteT h hc_4501
        refine VW.seq (VW.region (VO.t (v := .int .i64 (-1)) (t_assign rfl (fun _ _ => rfl)) rfl rfl (VO.nil (thenQ_normal (VW.subK (.c 4 rfl .n) rfl (VW.ret (thenQ_ret ?_)))))))
        have h := Option.some.inj h
        subst h
        exact ⟨.inr rfl, rfl, _, .int .i64 (-1), hq [] [], rfl, VLe.refl _, hq_sub .slnil .slnil, rfl, rfl⟩
      · replace h := iteF h hc_4501
        refine VW.skip (thenQ_normal (VW.subK (.c 0 rfl (.c 1 rfl .n)) rfl (VW.seq (VW.seq (VW.region (VO.t (t_move rfl rfl) rfl rfl (VO.t (t_move rfl rfl) rfl rfl (VO.t (v := .bool (decide (a0 > a1))) (t_cmp rfl rfl rfl rfl rfl) rfl rfl (VO.nil ?_)))))))))
        refine thenQ_normal (VW.subK (.c 19 rfl .n) rfl ?_)
        refine VW.cond (b := (decide (a0 > a1))) rfl (fun hc_4502 => ?_) (fun hc_4502 => ?_)
        · replace h := iteT h hc_4502
          refine VW.seq (VW.region (VO.t (v := .int .i64 1) (t_assign rfl (fun _ _ => rfl)) rfl rfl (VO.nil (thenQ_normal (VW.subK (.c 4 rfl .n) rfl (VW.ret (thenQ_ret ?_)))))))
          have h := Option.some.inj h
          subst h
          exact ⟨.inr rfl, rfl, _, .int .i64 1, hq [] [], rfl, VLe.refl _, hq_sub .slnil .slnil, rfl, rfl⟩
        · replace h := iteF h hc_4502
          refine VW.skip (thenQ_normal (VW.subN (t' := []) trivial rfl (VW.seq (VW.region (VO.t (v := .int .i64 0) (t_assign rfl (fun _ _ => rfl)) rfl rfl (VO.nil (thenQ_normal (VW.ret ?_))))))))
          have h := Option.some.inj h
          subst h
          exact ⟨.inr rfl, rfl, _, .int .i64 0, hq [] [], rfl, VLe.refl _, hq_sub .slnil .slnil, rfl, rfl⟩

theorem set_tidy_1_ok (a0 : Pr) (a1 : Pr) (r : Int) (h : PL.set_tidy_1 a0 a1 = some r) :
    VCalls Try.prog 45 [.agg [.int .i64 a0.x0, .int .i64 a0.x1], .agg [.int .i64 a1.x0, .int .i64 a1.x1]] (hq [] []) (fun v H => .int .i64 r = v ∧ H = hq [] []) := by
  unfold PL.set_tidy_1 at h
  refine VCalls.of_body 10 [4] Try.func45 rfl rfl rfl (Nat.le_of_ble_eq_true rfl) (VW.subK (.c 0 rfl (.c 1 rfl .n)) rfl (VW.seq (VW.region (VO.w (fun v H' => ∃ ob_4503, .ptr ob_4503 0 = v ∧ H' = hq ([[(ob_4503, .cells [.int .i64 a0.x0, .int .i64 a0.x1])]]) []) (w_box_q rfl rfl rfl (fun ob => ⟨ob, rfl, rfl⟩)) rfl rfl ?_))))
  rintro _ _ ⟨ob_4503, rfl, rfl⟩
  refine VO.w (fun v H' => ∃ ob_4504, .ptr ob_4504 0 = v ∧ H' = hq ([[(ob_4504, .cells [.int .i64 a1.x0, .int .i64 a1.x1])], [(ob_4503, .cells [.int .i64 a0.x0, .int .i64 a0.x1])]]) []) (w_box_q rfl rfl rfl (fun ob => ⟨ob, rfl, rfl⟩)) rfl rfl ?_
  rintro _ _ ⟨ob_4504, rfl, rfl⟩
  refine VO.t (v := .int .i64 0) (t_assign rfl (fun _ _ => rfl)) rfl rfl (VO.nil (thenQ_normal (VW.subK (.c 2 rfl (.c 3 rfl .n)) rfl (VW.seq (VW.region (VO.t (v := .ptr ob_4503 0) (t_indexAddr_parr rfl ar49 rfl (fun _ _ => rfl) (by decide) (by decide) rfl) rfl rfl (VO.r (v := .int .i64 a0.x0) (r_load_q (i := 1) rfl sz3 rfl rfl rfl) rfl rfl (VO.t (v := .ptr ob_4504 0) (t_indexAddr_parr rfl ar49 rfl (fun _ _ => rfl) (by decide) (by decide) rfl) rfl rfl (VO.r (v := .int .i64 a1.x0) (r_load_q (i := 0) rfl sz3 rfl rfl rfl) rfl rfl ?_)))))))))
  obtain ⟨rv_4505, hx_4506, h⟩ := obind h
  refine VO.w (fun v H' => .int .i64 rv_4505 = v ∧ H' = hq ([[(ob_4504, .cells [.int .i64 a1.x0, .int .i64 a1.x1])], [(ob_4503, .cells [.int .i64 a0.x0, .int .i64 a0.x1])]]) []) (w_call_q (sa := []) (sg := [[(ob_4504, .cells [.int .i64 a1.x0, .int .i64 a1.x1])], [(ob_4503, .cells [.int .i64 a0.x0, .int .i64 a0.x1])]]) (tks := []) rfl fn46 rfl ⟨_, _, rfl, rfl, _, _, rfl, rfl, rfl⟩ (cmp_Compare_int_ok _ _ _ hx_4506) (by rintro v H' ⟨rfl, rfl⟩; exact ⟨[], rfl, rfl, rfl⟩)) rfl rfl ?_
  rintro _ _ ⟨rfl, rfl⟩
  refine VO.t (v := .int .i64 rv_4505) (t_assign rfl rfl) rfl rfl (VO.nil (thenQ_normal (VW.subK (.c 4 rfl .n) rfl (VW.hsub (A := hq [] []) (hq_sub (.cons _ (.cons _ .slnil)) .slnil) (VW.ret ?_)))))
  have h := Option.some.inj h
  subst h
  exact ⟨.inr rfl, rfl, _, .int .i64 rv_4505, hq [] [], rfl, VLe.refl _, hq_sub .slnil .slnil, rfl, rfl⟩

theorem set_tidy.l0_ok (k_4508 : List Pr) {Q : Exit → Env → HH → Prop} :
    ∀ (out_4589 : List Pr) (x_4591 : Int) (o : (List Pr)), PL.set_tidy.l0 k_4508 out_4589 x_4591 = some o →
    ∀ (vp0_4588 : VV) (bp0_4588 : Seg) (vbu4590 : VV) (bbu4590 : Seg) (hbp0_4588 : Buf 2 (k_4508.map Pr.c) vp0_4588 bp0_4588) (hbu4590 : Buf 2 (out_4589.map Pr.c) vbu4590 bbu4590) (hx0 : ∀ (out_4617 : List Pr) (bp0_4616 : Seg) (vbu4618 : VV) (bbu4618 : Seg), out_4617 = o → Buf 2 (k_4508.map Pr.c) vp0_4588 bp0_4616 → Buf 2 (out_4617.map Pr.c) vbu4618 bbu4618 → Q (.exit 0) ⟨[(3, vbu4618)], []⟩ (hq ([bp0_4616, bbu4618]) [])), VW Try.prog 51 (codeAt [1, 1, 1, 0, 1, 0, 0] (bodyOf Try.f29)) (thenQ (VL Try.prog 51 (codeAt [1, 1, 1, 0, 1, 0, 0] (bodyOf Try.f29)) Q) Q) ⟨[(3, vbu4590), (9, vp0_4588), (10, .int .i64 (k_4508.length : Int)), (11, .int .i64 x_4591)], []⟩ (hq ([bp0_4588, bbu4590]) []) := by
  refine PL.set_tidy.l0.partial_correctness k_4508 (motive := fun out_4589 x_4591 o => ∀ (vp0_4588 : VV) (bp0_4588 : Seg) (vbu4590 : VV) (bbu4590 : Seg) (hbp0_4588 : Buf 2 (k_4508.map Pr.c) vp0_4588 bp0_4588) (hbu4590 : Buf 2 (out_4589.map Pr.c) vbu4590 bbu4590) (hx0 : ∀ (out_4617 : List Pr) (bp0_4616 : Seg) (vbu4618 : VV) (bbu4618 : Seg), out_4617 = o → Buf 2 (k_4508.map Pr.c) vp0_4588 bp0_4616 → Buf 2 (out_4617.map Pr.c) vbu4618 bbu4618 → Q (.exit 0) ⟨[(3, vbu4618)], []⟩ (hq ([bp0_4616, bbu4618]) [])), VW Try.prog 51 (codeAt [1, 1, 1, 0, 1, 0, 0] (bodyOf Try.f29)) (thenQ (VL Try.prog 51 (codeAt [1, 1, 1, 0, 1, 0, 0] (bodyOf Try.f29)) Q) Q) ⟨[(3, vbu4590), (9, vp0_4588), (10, .int .i64 (k_4508.length : Int)), (11, .int .i64 x_4591)], []⟩ (hq ([bp0_4588, bbu4590]) [])) ?_
  intro _ ih out_4589 x_4591 o h vp0_4588 bp0_4588 vbu4590 bbu4590 hbp0_4588 hbu4590 hx0
  refine VW.seq (VW.region (VO.t (v := .bool (decide (x_4591 < (k_4508.length : Int)))) (t_cmp rfl rfl rfl rfl rfl) rfl rfl (VO.nil (thenQ_normal (VW.seq ?_)))))
  refine VW.cond (b := (decide (x_4591 < (k_4508.length : Int)))) rfl (fun hc_4619 => ?_) (fun hc_4619 => ?_)
  · replace h := iteT h hc_4619
    refine VW.skip (thenQ_normal (VW.subK (.c 3 rfl (.c 9 rfl (.c 10 rfl (.c 11 rfl .n)))) rfl (VW.seq (VW.block (VW.seq (VW.region ?_))))))
    obtain ⟨c_4620, hc_4620, h⟩ := obind h
    obtain ⟨ob_4621, cap_4621, len_4621, sl_4621, rfl, rfl, hE_4621, hl_4621, hc_4621, hs_4621⟩ := buf_at hbp0_4588 hc_4620
    refine VO.t (v := .ptr ob_4621 (x_4591.toNat * 2 + 0)) (t_index_own rfl sl22 rfl rfl (getI_some hc_4620).1 (by rw [hl_4621]; exact getI_lt hc_4620) rfl) rfl rfl (VO.r (v := .agg [.int .i64 c_4620.x0, .int .i64 c_4620.x1]) (r_load_buf (n := 2) (f := 0) (j := 0) rfl sz49 rfl rfl hE_4621 (map_get (getI_some hc_4620).2 (Pr.c_eq c_4620)) (Nat.le_of_ble_eq_true rfl) (fun _ => ofCells_agg rfl)) rfl rfl (VO.w (fun v H' => ∃ ob_4622, .ptr ob_4622 0 = v ∧ H' = hq ([[(ob_4622, .cells [.int .i64 0, .int .i64 0])], [(ob_4621, .cells ((k_4508.map Pr.c).flatten ++ sl_4621))], bbu4590]) []) (w_alloc_q rfl zt49 (fun ob => ⟨ob, rfl, rfl⟩)) rfl rfl ?_))
    rintro _ _ ⟨ob_4622, rfl, rfl⟩
    refine VO.w (fun v H' => .any = v ∧ H' = hq ([[(ob_4622, .cells [.int .i64 c_4620.x0, .int .i64 c_4620.x1])], [(ob_4621, .cells ((k_4508.map Pr.c).flatten ++ sl_4621))], bbu4590]) []) (w_store_q (i := 0) rfl sz49 rfl rfl rfl rfl rfl (Nat.le_of_ble_eq_true rfl) ⟨rfl, rfl⟩) rfl rfl ?_
    rintro _ _ ⟨rfl, rfl⟩
    refine VO.nil (thenQ_normal (VW.subK (.c 3 rfl (.c 9 rfl (.c 10 rfl (.c 11 rfl (.c 5 rfl .n))))) rfl (VW.seq (VW.region (VO.t (t_move rfl rfl) rfl rfl (VO.t (v := .int .i64 (out_4589.length : Int)) (t_len_buf rfl ⟨_, Try.underlying22⟩ rfl hbu4590 (by rw [List.length_map])) rfl rfl (VO.t (v := .int .i64 (out_4589.length : Int)) (t_assign rfl rfl) rfl rfl (VO.nil (thenQ_normal ?_)))))))))
    refine VW.subK (.c 3 rfl (.c 9 rfl (.c 10 rfl (.c 11 rfl (.c 5 rfl (.c 6 rfl .n)))))) rfl (VW.seq ?_)
    obtain ⟨o_4631, h, hx_4629⟩ := obind h
    refine VW.joinQ (E := Bool × Seg × VV × Seg) (I := fun ⟨x_4628, bp0_4626, vbu4627, bbu4627⟩ => x_4628 = o_4631 ∧ Buf 2 (k_4508.map Pr.c) (.own ob_4621 cap_4621 len_4621) bp0_4626 ∧ Buf 2 (out_4589.map Pr.c) vbu4627 bbu4627 ∧ True) (env' := fun ⟨x_4628, bp0_4626, vbu4627, bbu4627⟩ => ⟨[(3, vbu4627), (9, .own ob_4621 cap_4621 len_4621), (10, .int .i64 (k_4508.length : Int)), (11, .int .i64 x_4591), (5, .ptr ob_4622 0), (6, .int .i64 (out_4589.length : Int)), (30, .bool x_4628)], []⟩) (H' := fun ⟨x_4628, bp0_4626, vbu4627, bbu4627⟩ => hq ([bp0_4626, bbu4627, [(ob_4622, .cells [.int .i64 c_4620.x0, .int .i64 c_4620.x1])]]) []) ?_ (fun J_4630 => ?_)
    · rintro ⟨x_4628, bp0_4626, vbu4627, bbu4627⟩ ⟨ho_, hbp0_4626, hbu4627, _⟩
      subst ho_
      replace h := hx_4629
      clear hx_4629
      try dsimp only at h
      show VW _ _ _ _ ⟨[(3, vbu4627), (9, .own ob_4621 cap_4621 len_4621), (10, .int .i64 (k_4508.length : Int)), (11, .int .i64 x_4591), (5, .ptr ob_4622 0), (6, .int .i64 (out_4589.length : Int)), (30, .bool x_4628)], []⟩ (hq ([bp0_4626, bbu4627, [(ob_4622, .cells [.int .i64 c_4620.x0, .int .i64 c_4620.x1])]]) [])
      refine VW.cond (b := x_4628) rfl (fun hc_4632 => ?_) (fun hc_4632 => ?_)
      · replace h := iteT h hc_4632
        refine VW.draw 15 mix rfl (VA.phase (g := 1) [0, 1, 2, 3, 4, 5, 6, 7, 8, 9, 10, 11, 12, 13] 14 (VP.take (i := 0) rfl (TOp.r (t_move rfl rfl)) (.inl rfl) (by kernel_rfl) (VP.take (i := 1) rfl (TOp.r (t_move rfl rfl)) (.inl rfl) (by kernel_rfl) (VP.take (i := 2) (v := .int .i64 (w64 ((out_4589.length : Int) - 1))) rfl (TOp.r (t_sub rfl rfl (fun _ _ => rfl) rfl)) (.inl rfl) (by kernel_rfl) (VP.take (i := 3) rfl (TOp.r (t_move rfl rfl)) (.inl rfl) (by kernel_rfl) (VP.take (i := 4) rfl (TOp.r (t_move rfl rfl)) (.inl rfl) (by kernel_rfl) (VP.take (i := 5) (v := .int .i64 (w64 ((out_4589.length : Int) - 1))) rfl (TOp.r (t_sub rfl rfl (fun _ _ => rfl) rfl)) (.inl rfl) (by kernel_rfl) ?_)))))))
        obtain ⟨c_4633, hc_4633, h⟩ := obind h
        obtain ⟨ob_4634, cap_4634, len_4634, sl_4634, rfl, rfl, hE_4634, hl_4634, hc_4634, hs_4634⟩ := buf_at hbu4627 hc_4633
        refine VP.take (i := 6) (v := .ptr ob_4634 ((w64 ((out_4589.length : Int) - 1)).toNat * 2 + 0)) rfl (TOp.r (t_index_own rfl sl22 rfl rfl (getI_some hc_4633).1 (by rw [hl_4634]; exact getI_lt hc_4633) rfl)) (.inl rfl) (by kernel_rfl) (VP.take (i := 7) (v := .ptr ob_4634 ((w64 ((out_4589.length : Int) - 1)).toNat * 2 + 1)) rfl (TOp.r (t_indexAddr_parr rfl ar49 rfl (fun _ _ => rfl) (by decide) (by decide) rfl)) (.inl rfl) (by kernel_rfl) (VP.take (i := 8) (v := .int .i64 c_4633.x1) rfl (r_load_buf (n := 2) (f := 1) (j := 1) rfl sz3 rfl rfl hE_4634 (map_get (getI_some hc_4633).2 (Pr.c_eq c_4633)) (Nat.le_of_ble_eq_true rfl) (fun _ => rfl)) (.inl rfl) (by kernel_rfl) (VP.take (i := 9) (v := .ptr ob_4622 1) rfl (TOp.r (t_indexAddr_parr rfl ar49 rfl (fun _ _ => rfl) (by decide) (by decide) rfl)) (.inl rfl) (by kernel_rfl) (VP.take (i := 10) (v := .int .i64 c_4620.x1) rfl (r_load_q (i := 2) rfl sz3 rfl rfl rfl) (.inl rfl) (by kernel_rfl) (VP.take (i := 11) (v := .int .i64 (max c_4633.x1 c_4620.x1)) rfl (TOp.r (t_max rfl rfl rfl rfl)) (.inl rfl) (by kernel_rfl) (VP.take (i := 12) (v := .ptr ob_4634 ((w64 ((out_4589.length : Int) - 1)).toNat * 2 + 0)) rfl (TOp.r (t_index_own rfl sl22 rfl rfl (getI_some hc_4633).1 (by rw [hl_4634]; exact getI_lt hc_4633) rfl)) (.inl rfl) (by kernel_rfl) (VP.take (i := 13) (v := .ptr ob_4634 ((w64 ((out_4589.length : Int) - 1)).toNat * 2 + 1)) rfl (TOp.r (t_indexAddr_parr rfl ar49 rfl (fun _ _ => rfl) (by decide) (by decide) rfl)) (.inl rfl) (by kernel_rfl) (VP.done (by kernel_rfl) (VA.w (i := 14) (fun v H' => .any = v ∧ H' = hq ([bp0_4626, [(ob_4634, .cells (((out_4589.set (w64 ((out_4589.length : Int) - 1)).toNat (Pr.mk c_4633.x0 (max c_4633.x1 c_4620.x1))).map Pr.c).flatten ++ sl_4634))], [(ob_4622, .cells [.int .i64 c_4620.x0, .int .i64 c_4620.x1])]]) []) rfl (w_store_buf (n := 2) (f := 1) (j := 1) rfl sz3 rfl rfl rfl hE_4634 (map_get (getI_some hc_4633).2 (Pr.c_eq c_4633)) rfl rfl (Nat.le_of_ble_eq_true rfl) rfl (map_set (Pr.c_eq (Pr.mk c_4633.x0 (max c_4633.x1 c_4620.x1)))) ⟨rfl, rfl⟩) (.inl rfl) (by kernel_rfl) rfl ?_)))))))))
        rintro _ _ ⟨rfl, rfl⟩
        have hl_4636 : len_4634 = (out_4589.set (w64 ((out_4589.length : Int) - 1)).toNat (Pr.mk c_4633.x0 (max c_4633.x1 c_4620.x1))).length := by simp [hl_4634]
        refine VA.done (by kernel_rfl) (blockQ_normal (thenQ_normal (VW.subK (.c 3 rfl (.c 9 rfl (.c 10 rfl (.c 11 rfl .n)))) rfl (VW.hsub (A := hq ([bp0_4626, [(ob_4634, .cells (((out_4589.set (w64 ((out_4589.length : Int) - 1)).toNat (Pr.mk c_4633.x0 (max c_4633.x1 c_4620.x1))).map Pr.c).flatten ++ sl_4634))]]) []) (hq_sub (.cons_cons _ (.cons_cons _ (.cons _ .slnil))) .slnil) (VW.region (VO.t (v := .int .i64 (w64 (x_4591 + 1))) (t_add rfl rfl (fun _ _ => rfl) rfl) rfl rfl (VO.t (t_move rfl rfl) rfl rfl (VO.nil (thenQ_normal (VL.round ?_))))))))))
        refine VW.subK (.c 3 rfl (.c 9 rfl (.c 10 rfl (.c 11 rfl .n)))) rfl ?_
        exact ih _ _ _ h (.own ob_4621 cap_4621 len_4621) bp0_4626 (.own ob_4634 cap_4634 len_4634) [(ob_4634, .cells (((out_4589.set (w64 ((out_4589.length : Int) - 1)).toNat (Pr.mk c_4633.x0 (max c_4633.x1 c_4620.x1))).map Pr.c).flatten ++ sl_4634))] hbp0_4626 (Buf.own (n := 2) (l := (out_4589.set (w64 ((out_4589.length : Int) - 1)).toNat (Pr.mk c_4633.x0 (max c_4633.x1 c_4620.x1))).map Pr.c) ob_4634 cap_4634 len_4634 sl_4634 (elemsOK_map Pr.c_ok _) (by simp [hl_4636]) hc_4634 hs_4634) hx0
      · replace h := iteF h hc_4632
        refine VW.region (VO.t (t_move rfl rfl) rfl rfl (VO.r (v := .agg [.int .i64 c_4620.x0, .int .i64 c_4620.x1]) (r_load_q (i := 2) rfl sz49 rfl rfl rfl) rfl rfl (VO.w (fun v H' => ∃ t_4637, .sl (.cap t_4637 2) (([c_4620]).map Pr.c) = v ∧ H' = hq ([bp0_4626, bbu4627, [(ob_4622, .cells [.int .i64 c_4620.x0, .int .i64 c_4620.x1])]]) ([.cap t_4637 2])) (w_buildSlice (l := [[.int .i64 c_4620.x0, .int .i64 c_4620.x1]]) rfl el22 ⟨rfl, _, _, rfl, rfl, rfl, rfl, rfl⟩ rfl (Nat.le_of_ble_eq_true rfl) (fun tk => ⟨tk, by simp only [List.map_cons, List.map_nil, Pr.c_eq], rfl⟩)) rfl rfl ?_)))
        rintro _ _ ⟨t_4637, rfl, rfl⟩
        obtain ⟨_, hr_4638, h⟩ := obind h
        refine VO.w (fun v H' => ∃ vbu_4639 bbu_4639, Buf 2 ((out_4589 ++ ([c_4620])).map Pr.c) vbu_4639 bbu_4639 ∧ vbu_4639 = v ∧ H' = hq ([bbu_4639, bp0_4626, [(ob_4622, .cells [.int .i64 c_4620.x0, .int .i64 c_4620.x1])]]) ([.cap t_4637 2])) (w_append_buf (i := 1) rfl el22 rfl rfl hbu4627 rfl (elemsOK_map Pr.c_ok _) (by have := room_some hr_4638; simpa using this) (Nat.le_of_ble_eq_true rfl) (fun v b hB => ⟨v, b, by simpa using hB, rfl, rfl⟩)) rfl rfl ?_
        rintro _ _ ⟨vbu_4639, bbu_4639, hbu_4639, rfl, rfl⟩
        refine VO.t (v := vbu_4639) (t_assign rfl rfl) rfl rfl (VO.nil (blockQ_normal (thenQ_normal (VW.subK (.c 9 rfl (.c 10 rfl (.c 11 rfl (.c 3 rfl .n)))) rfl (VW.hsub (A := hq ([bbu_4639, bp0_4626]) []) (hq_sub (.cons_cons _ (.cons_cons _ (.cons _ .slnil))) (.cons _ .slnil)) (VW.region (VO.t (v := .int .i64 (w64 (x_4591 + 1))) (t_add rfl rfl (fun _ _ => rfl) rfl) rfl rfl (VO.t (t_move rfl rfl) rfl rfl (VO.nil ?_)))))))))
        refine thenQ_normal (VL.round ?_)
        refine VW.subK (.c 3 rfl (.c 9 rfl (.c 10 rfl (.c 11 rfl .n)))) rfl (VW.frontS 0 rfl (VW.frontS 1 rfl ?_))
        exact ih _ _ _ h (.own ob_4621 cap_4621 len_4621) bp0_4626 vbu_4639 bbu_4639 hbp0_4626 hbu_4639 hx0
    · refine VW.draw 14 mix rfl (VA.t (i := 0) rfl (t_move rfl rfl) (.inl rfl) (by kernel_rfl) (VA.t (i := 1) (v := .bool (decide ((out_4589.length : Int) > 0))) rfl (t_cmp rfl rfl rfl (fun _ _ => rfl) rfl) (.inl rfl) (by kernel_rfl) (VA.t (i := 2) rfl (t_move rfl rfl) (.inl rfl) (by kernel_rfl) ?_)))
      refine VA.caseB (d := 19) (b := (decide ((out_4589.length : Int) > 0))) rfl (fun hc_4640 => ?_) (fun hc_4640 => ?_)
      · replace h := iteT h hc_4640
        refine VA.phase (g := 0) [3, 4, 5, 6, 7, 8, 9, 10, 11, 12, 13] 11 (VP.take (i := 3) (v := .ptr ob_4622 0) rfl (TOp.r (t_indexAddr_parr rfl ar49 rfl (fun _ _ => rfl) (by decide) (by decide) rfl)) (.inr ⟨_, _, _, rfl, rfl, rfl⟩) (by kernel_rfl) (VP.take (i := 4) (v := .int .i64 c_4620.x0) rfl (r_load_q (i := 0) rfl sz3 rfl rfl rfl) (.inr ⟨_, _, _, rfl, rfl, rfl⟩) (by kernel_rfl) (VP.take (i := 5) rfl (TOp.r (t_move rfl rfl)) (.inr ⟨_, _, _, rfl, rfl, rfl⟩) (by kernel_rfl) (VP.take (i := 6) rfl (TOp.r (t_move rfl rfl)) (.inr ⟨_, _, _, rfl, rfl, rfl⟩) (by kernel_rfl) (VP.take (i := 7) (v := .int .i64 (w64 ((out_4589.length : Int) - 1))) rfl (TOp.r (t_sub rfl rfl (fun _ _ => rfl) rfl)) (.inr ⟨_, _, _, rfl, rfl, rfl⟩) (by kernel_rfl) ?_)))))
        obtain ⟨c_4641, hc_4641, h⟩ := obind h
        obtain ⟨ob_4642, cap_4642, len_4642, sl_4642, rfl, rfl, hE_4642, hl_4642, hc_4642, hs_4642⟩ := buf_at hbu4590 hc_4641
        refine VP.take (i := 8) (v := .ptr ob_4642 ((w64 ((out_4589.length : Int) - 1)).toNat * 2 + 0)) rfl (TOp.r (t_index_own rfl sl22 rfl rfl (getI_some hc_4641).1 (by rw [hl_4642]; exact getI_lt hc_4641) rfl)) (.inr ⟨_, _, _, rfl, rfl, rfl⟩) (by kernel_rfl) (VP.take (i := 9) (v := .ptr ob_4642 ((w64 ((out_4589.length : Int) - 1)).toNat * 2 + 1)) rfl (TOp.r (t_indexAddr_parr rfl ar49 rfl (fun _ _ => rfl) (by decide) (by decide) rfl)) (.inr ⟨_, _, _, rfl, rfl, rfl⟩) (by kernel_rfl) (VP.take (i := 10) (v := .int .i64 c_4641.x1) rfl (r_load_buf (n := 2) (f := 1) (j := 2) rfl sz3 rfl rfl hE_4642 (map_get (getI_some hc_4641).2 (Pr.c_eq c_4641)) (Nat.le_of_ble_eq_true rfl) (fun _ => rfl)) (.inr ⟨_, _, _, rfl, rfl, rfl⟩) (by kernel_rfl) (VP.take (i := 11) (v := .int .i64 (w64 (c_4641.x1 + 1))) rfl (TOp.r (t_add rfl rfl (fun _ _ => rfl) rfl)) (.inr ⟨_, _, _, rfl, rfl, rfl⟩) (by kernel_rfl) (VP.take (i := 12) (v := .bool (decide (c_4620.x0 ≤ (w64 (c_4641.x1 + 1))))) rfl (TOp.r (t_cmp rfl rfl rfl rfl rfl)) (.inr ⟨_, _, _, rfl, rfl, rfl⟩) (by kernel_rfl) (VP.take (i := 13) (v := .bool (decide (c_4620.x0 ≤ (w64 (c_4641.x1 + 1))))) rfl (TOp.r (t_pick (b := true) rfl rfl (fun _ => rfl) (fun h => by cases h))) (.inl rfl) (by kernel_rfl) (VP.done (by kernel_rfl) (VA.subN (t' := [(3, .own ob_4642 cap_4642 len_4642), (9, .own ob_4621 cap_4621 len_4621), (10, .int .i64 (k_4508.length : Int)), (11, .int .i64 x_4591), (5, .ptr ob_4622 0), (6, .int .i64 (out_4589.length : Int)), (30, .bool (decide (c_4620.x0 ≤ (w64 (c_4641.x1 + 1)))))]) ⟨⟨_, rfl, VLe.refl _⟩, ⟨_, rfl, VLe.refl _⟩, ⟨_, rfl, VLe.refl _⟩, ⟨_, rfl, VLe.refl _⟩, ⟨_, rfl, VLe.refl _⟩, ⟨_, rfl, VLe.refl _⟩, ⟨_, rfl, VLe.refl _⟩, trivial⟩ rfl (VA.frontS 0 rfl (VA.frontS 2 rfl ?_)))))))))
        refine VA.frontS 2 rfl (VA.done (by kernel_rfl) ?_)
        exact thenQ_normal (J_4630 ⟨decide (c_4620.x0 ≤ (w64 (c_4641.x1 + 1))), [(ob_4621, .cells ((k_4508.map Pr.c).flatten ++ sl_4621))], (.own ob_4642 cap_4642 len_4642), [(ob_4642, .cells ((out_4589.map Pr.c).flatten ++ sl_4642))]⟩ ⟨Option.some.inj h, (Buf.own (n := 2) (l := k_4508.map Pr.c) ob_4621 cap_4621 len_4621 sl_4621 (elemsOK_map Pr.c_ok _) (by simp [hl_4621]) hc_4621 hs_4621), (Buf.own (n := 2) (l := out_4589.map Pr.c) ob_4642 cap_4642 len_4642 sl_4642 (elemsOK_map Pr.c_ok _) (by simp [hl_4642]) hc_4642 hs_4642), trivial⟩)
      · replace h := iteF h hc_4640
        refine VA.skip (i := 3) rfl rfl rfl rfl rfl (by kernel_rfl) (VA.skip (i := 4) rfl rfl rfl rfl rfl (by kernel_rfl) (VA.skip (i := 5) rfl rfl rfl rfl rfl (by kernel_rfl) (VA.skip (i := 6) rfl rfl rfl rfl rfl (by kernel_rfl) (VA.skip (i := 7) rfl rfl rfl rfl rfl (by kernel_rfl) (VA.skip (i := 8) rfl rfl rfl rfl rfl (by kernel_rfl) (VA.skip (i := 9) rfl rfl rfl rfl rfl (by kernel_rfl) (VA.skip (i := 10) rfl rfl rfl rfl rfl (by kernel_rfl) (VA.skip (i := 11) rfl rfl rfl rfl rfl (by kernel_rfl) (VA.skip (i := 12) rfl rfl rfl rfl rfl (by kernel_rfl) ?_)))))))))
        refine VA.t (i := 13) (v := .bool false) rfl (t_pick (b := false) rfl rfl (fun h => by cases h) (fun _ => (fun _ _ => rfl))) (.inl rfl) (by kernel_rfl) (VA.subN (t' := [(3, vbu4590), (9, .own ob_4621 cap_4621 len_4621), (10, .int .i64 (k_4508.length : Int)), (11, .int .i64 x_4591), (5, .ptr ob_4622 0), (6, .int .i64 (out_4589.length : Int)), (30, .bool false)]) ⟨⟨_, rfl, VLe.refl _⟩, ⟨_, rfl, VLe.refl _⟩, ⟨_, rfl, VLe.refl _⟩, ⟨_, rfl, VLe.refl _⟩, ⟨_, rfl, VLe.refl _⟩, ⟨_, rfl, VLe.refl _⟩, ⟨_, rfl, VLe.refl _⟩, trivial⟩ rfl (VA.frontS 0 rfl (VA.frontS 2 rfl (VA.frontS 2 rfl (VA.done (by kernel_rfl) ?_)))))
        exact thenQ_normal (J_4630 ⟨false, [(ob_4621, .cells ((k_4508.map Pr.c).flatten ++ sl_4621))], vbu4590, bbu4590⟩ ⟨Option.some.inj h, (Buf.own (n := 2) (l := k_4508.map Pr.c) ob_4621 cap_4621 len_4621 sl_4621 (elemsOK_map Pr.c_ok _) (by simp [hl_4621]) hc_4621 hs_4621), hbu4590, trivial⟩)
  · replace h := iteF h hc_4619
    refine VW.subK (.c 3 rfl .n) rfl (VW.exit (thenQ_exit (thenQ_exit ?_)))
    have h := Option.some.inj h
    subst h
    exact hx0 _ bp0_4588 vbu4590 bbu4590 rfl hbp0_4588 hbu4590

theorem set_tidy_ok (a0 : List Pr) (r : List Pr × List Pr) (h : PL.set_tidy a0 = some r) (v0 : VV) (b0 : Seg) (hB0 : Buf 2 (a0.map Pr.c) v0 b0) :
    VCalls Try.prog 29 [v0] (hq [b0] []) (fun v H => ∃ bk0, Buf 2 (r.2.map Pr.c) v0 bk0 ∧ .sl .fz (r.1.map Pr.c) = v ∧ H = hq [bk0] []) := by
  unfold PL.set_tidy at h
  refine VCalls.of_body 51 [2] Try.func29 rfl rfl rfl (Nat.le_of_ble_eq_true rfl) (VW.subK (.c 0 rfl .n) rfl (VW.seq (VW.region (VO.t (v := .sl .nl []) (t_assign rfl (fun _ _ => .inl ⟨rfl, .inl rfl⟩)) rfl rfl (VO.eqv (A := hq ([[], b0]) []) (.refl _) (VO.nil (thenQ_normal (VW.subK (.c 0 rfl .n) rfl (VW.hsub (A := hq ([b0]) []) (hq_sub (.cons _ (.cons_cons _ .slnil)) .slnil) ?_)))))))))
  refine VW.seq (VW.region (VO.t (t_move rfl rfl) rfl rfl ?_))
  obtain ⟨k_4508, hx_4509, h⟩ := obind h
  refine VO.w (fun v H' => ∃ bk0_4510, Buf 2 (k_4508.map Pr.c) v0 bk0_4510 ∧ .tup [] = v ∧ H' = hq ([bk0_4510]) []) (w_call_q (sa := [b0, []]) (sg := []) (tks := []) rfl fn44 rfl ⟨_, _, rfl, rfl, _, _, rfl, rfl, rfl⟩ (slices_SortFunc_2int2int_ok _ _ _ hx_4509 v0 b0 45 [] [] [] hB0 fn45 (fun y0 y1 z h => set_tidy_1_ok y0 y1 z h)) (by rintro v H' ⟨bk0_4510, h_0, rfl, rfl⟩; exact ⟨[bk0_4510, []], rfl, bk0_4510, h_0, rfl, rfl⟩)) rfl rfl ?_
  rintro _ _ ⟨bk0_4510, hB_4511, rfl, rfl⟩
  refine VO.nil (thenQ_normal (VW.subK (.c 0 rfl .n) rfl (VW.seq (VW.region (VO.t (v := .sl .nl []) (t_assign rfl (fun _ _ => .inl ⟨rfl, .inl rfl⟩)) rfl rfl (VO.eqv (A := hq ([[], bk0_4510]) []) (.refl _) (VO.nil (thenQ_normal (VW.seq ?_)))))))))
  refine VW.seq (VW.region (VO.t (t_move rfl rfl) rfl rfl (VO.t (v := .int .i64 (k_4508.length : Int)) (t_len_buf rfl ⟨_, Try.underlying22⟩ rfl hB_4511 (by rw [List.length_map])) rfl rfl (VO.t (v := .int .i64 0) (t_move rfl (fun _ _ => rfl)) rfl rfl (VO.nil (thenQ_normal (VW.subK (.c 3 rfl (.c 9 rfl (.c 10 rfl (.c 11 rfl .n)))) rfl (VW.block (VW.subK (.c 3 rfl (.c 9 rfl (.c 10 rfl (.c 11 rfl .n)))) rfl ?_)))))))))
  refine VW.frontS 0 rfl (VW.frontS 1 rfl ?_)
  obtain ⟨o_4643, hx_4644, h⟩ := obind h
  refine VW.loopL (set_tidy.l0_ok k_4508 _ _ _ hx_4644 v0 bk0_4510 (.sl .nl []) [] hB_4511 (.nil rfl) ?_)
  · intro out_4617 bp0_4616 vbu4618 bbu4618 ho_ hbp0_4616 hbu4618
    subst ho_
    try dsimp only at h
    refine blockQ_hit (thenQ_normal (VW.seq (VW.region (VO.t (t_move rfl rfl) rfl rfl (VO.t (v := vbu4618) (t_assign rfl rfl) rfl rfl (VO.nil (thenQ_normal (VW.subK (.c 2 rfl .n) rfl (VW.freeze (t' := [(2, .sl .fz (out_4617.map Pr.c))]) 1 rfl hbu4618 ⟨.inr ⟨rfl, rfl⟩, trivial⟩ rfl ?_)))))))))
    refine VW.ret ?_
    have h := Option.some.inj h
    subst h
    exact ⟨.inr rfl, rfl, _, .sl .fz (out_4617.map Pr.c), hq [bp0_4616] [], rfl, VLe.refl _, hq_sub (.cons_cons _ .slnil) .slnil, bp0_4616, hbp0_4616, rfl, rfl⟩

theorem slices_Grow_2int2int_ok (a1 : Int) (r : List Pr) (h : PL.slices_Grow_2int2int a1 = some r) :
    VCalls Try.prog 47 [.sl .nl [], .int .i64 a1] (hq [[]] []) (fun v H => ∃ vr0 br0, Buf 2 (r.map Pr.c) vr0 br0 ∧ vr0 = v ∧ H = hq [br0] []) := by
  unfold PL.slices_Grow_2int2int at h
  refine VCalls.of_body 27 [4] Try.func47 rfl rfl rfl (Nat.le_of_ble_eq_true rfl) (VW.subK (.c 0 rfl (.c 1 rfl .n)) rfl (VW.seq (VW.region (VO.t (v := .sl .nl []) (t_assign rfl (fun _ _ => .inl ⟨rfl, .inl rfl⟩)) rfl rfl (VO.eqv (A := hq ([[], []]) []) (.refl _) (VO.nil (thenQ_normal (VW.subK (.c 0 rfl (.c 1 rfl .n)) rfl (VW.hsub (A := hq ([[]]) []) (hq_sub (.cons _ (.cons_cons _ .slnil)) .slnil) ?_)))))))))
  refine VW.seq (VW.seq (VW.region (VO.t (t_move rfl rfl) rfl rfl (VO.t (v := .bool (decide (a1 < 0))) (t_cmp rfl rfl rfl (fun _ _ => rfl) rfl) rfl rfl (VO.nil (thenQ_normal (VW.subK (.c 0 rfl (.c 1 rfl (.c 6 rfl .n))) rfl ?_)))))))
  refine VW.cond (b := (decide (a1 < 0))) rfl (fun hc_4647 => ?_) (fun hc_4647 => ?_)
  · replace h := iteT h hc_4647
    cases h
  · replace h := iteF h hc_4647
    refine VW.skip (thenQ_normal (VW.subK (.c 0 rfl (.c 1 rfl .n)) rfl (VW.seq (VW.seq (VW.region (VO.t (t_move rfl rfl) rfl rfl (VO.t (t_move rfl rfl) rfl rfl (VO.t (v := .int .i64 0) (t_cap_nl rfl ⟨_, Try.underlying22⟩ rfl) rfl rfl (VO.t (t_move rfl rfl) rfl rfl ?_)))))))))
    refine VO.t (v := .int .i64 0) (t_len_buf (l := []) rfl ⟨_, Try.underlying22⟩ rfl (.nil (n := 1) rfl) rfl) rfl rfl (VO.t (v := .int .i64 (w64 (0 - 0))) (t_sub rfl rfl rfl rfl) rfl rfl (VO.t (v := .int .i64 (w64 (a1 - (w64 (0 - 0))))) (t_sub rfl rfl rfl rfl) rfl rfl (VO.t (v := .int .i64 (w64 (a1 - (w64 (0 - 0))))) (t_assign rfl rfl) rfl rfl (VO.nil (thenQ_normal (VW.subK (.c 0 rfl (.c 1 rfl .n)) rfl (VW.seq (VW.region (VO.t (t_move rfl rfl) rfl rfl ?_)))))))))
    refine VO.t (v := .bool (decide ((w64 (a1 - (w64 (0 - 0)))) > 0))) (t_cmp rfl rfl rfl (fun _ _ => rfl) rfl) rfl rfl (VO.nil (thenQ_normal (VW.subK (.c 0 rfl (.c 1 rfl (.c 16 rfl .n))) rfl ?_)))
    obtain ⟨o_4658, h, hx_4656⟩ := obind h
    refine VW.joinQ (E := VV × Seg) (I := fun ⟨vbu4655, bbu4655⟩ => () = o_4658 ∧ Buf 2 ([].map Pr.c) vbu4655 bbu4655 ∧ True) (env' := fun ⟨vbu4655, bbu4655⟩ => ⟨[(0, vbu4655)], []⟩) (H' := fun ⟨vbu4655, bbu4655⟩ => hq ([bbu4655]) []) ?_ (fun J_4657 => ?_)
    · rintro ⟨vbu4655, bbu4655⟩ ⟨ho_, hbu4655, _⟩
      subst ho_
      replace h := hx_4656
      clear hx_4656
      try dsimp only at h
      show VW _ _ _ _ ⟨[(0, vbu4655)], []⟩ (hq ([bbu4655]) [])
      refine VW.seq (VW.region (VO.t (t_move rfl rfl) rfl rfl (VO.t (v := vbu4655) (t_assign rfl rfl) rfl rfl (VO.nil (thenQ_normal (VW.subK (.c 4 rfl .n) rfl (VW.ret ?_)))))))
      have h := Option.some.inj h
      subst h
      exact ⟨.inr rfl, rfl, _, vbu4655, hq [bbu4655] [], rfl, VLe.refl _, hq_sub (.cons_cons _ .slnil) .slnil, vbu4655, bbu4655, hbu4655, rfl, rfl⟩
    · refine VW.cond (b := (decide ((w64 (a1 - (w64 (0 - 0)))) > 0))) rfl (fun hc_4659 => ?_) (fun hc_4659 => ?_)
      · replace h := iteT h hc_4659
        refine VW.region (VO.t (t_move rfl rfl) rfl rfl (VO.t (t_move rfl rfl) rfl rfl (VO.t (v := .int .i64 0) (t_cap_nl rfl ⟨_, Try.underlying22⟩ rfl) rfl rfl (VO.t (v := (.sl .nl [])) (t_slice_nl rfl sl22 rfl ⟨_, rfl⟩) rfl rfl (VO.t (t_move rfl rfl) rfl rfl ?_)))))
        obtain ⟨ha_4660, h⟩ := ite_some h
        obtain ⟨_, hb_4661, h⟩ := obind h
        refine VO.w (fun v H' => ∃ vbu_4662 bbu_4662, Buf 2 ((List.replicate (w64 (a1 - (w64 (0 - 0)))).toNat (Pr.mk 0 0)).map Pr.c) vbu_4662 bbu_4662 ∧ vbu_4662 = v ∧ H' = hq ([bbu_4662]) []) (w_append_zeros (sg := []) (tks := []) rfl mk22 Try.underlying3 ⟨rfl, rfl⟩ rfl rfl ha_4660 (room_some hb_4661) (Nat.le_of_ble_eq_true rfl) (fun v b hB => ⟨v, b, by rw [List.map_replicate]; exact hB, rfl, rfl⟩)) rfl rfl ?_
        rintro _ _ ⟨vbu_4662, bbu_4662, hbu_4662, rfl, rfl⟩
        refine VO.t (t_move rfl rfl) rfl rfl (VO.t (v := .int .i64 0) (t_len_buf (l := []) rfl ⟨_, Try.underlying22⟩ rfl (.nil (n := 1) rfl) rfl) rfl rfl ?_)
        obtain ⟨ha_4663, h⟩ := ite_some h
        obtain ⟨hb_4664, h⟩ := ite_some h
        refine VO.slice_buf (m := (List.replicate (w64 (a1 - (w64 (0 - 0)))).toNat (Pr.mk 0 0)).map Pr.c) (k := 0) rfl sl22 rfl ⟨_, rfl⟩ hbu_4662 ha_4663 (by simpa using hb_4664) rfl rfl ?_
        intro vbu_4665 hbu_4665
        have hbu_4665 : Buf 2 ([].map Pr.c) vbu_4665 bbu_4662 := by simpa [List.map_take] using hbu_4665
        refine VO.t (v := vbu_4665) (t_assign rfl rfl) rfl rfl (VO.subK (.c 0 rfl .n) rfl (VO.nil ?_))
        exact thenQ_normal (J_4657 ⟨vbu_4665, bbu_4662⟩ ⟨Option.some.inj h, hbu_4665, trivial⟩)
      · replace h := iteF h hc_4659
        refine VW.subK (.c 0 rfl .n) rfl (VW.skip ?_)
        exact thenQ_normal (J_4657 ⟨(.sl .nl []), []⟩ ⟨Option.some.inj h, (.nil rfl), trivial⟩)

theorem slices_Concat_2int2int.l0_ok (a0 : List (List Pr)) {Q : Exit → Env → HH → Prop} :
    ∀ (size_4694 : Int) (x_4695 : Int) (o : Int), PL.slices_Concat_2int2int.l0 a0 size_4694 x_4695 = some o →
    ∀ (hx0 : ∀ (size_4699 : Int), size_4699 = o → Q (.exit 0) ⟨[(0, .sl .fz (a0.map (cSl Pr.c))), (3, .int .i64 size_4699)], []⟩ (hq [] [])), VW Try.prog 36 (codeAt [1, 1, 0, 1, 0, 0] (bodyOf Try.f30)) (thenQ (VL Try.prog 36 (codeAt [1, 1, 0, 1, 0, 0] (bodyOf Try.f30)) Q) Q) ⟨[(0, .sl .fz (a0.map (cSl Pr.c))), (3, .int .i64 size_4694), (9, .sl .fz (a0.map (cSl Pr.c))), (10, .int .i64 (a0.length : Int)), (11, .int .i64 x_4695)], []⟩ (hq [] []) := by
  refine PL.slices_Concat_2int2int.l0.partial_correctness a0 (motive := fun size_4694 x_4695 o => ∀ (hx0 : ∀ (size_4699 : Int), size_4699 = o → Q (.exit 0) ⟨[(0, .sl .fz (a0.map (cSl Pr.c))), (3, .int .i64 size_4699)], []⟩ (hq [] [])), VW Try.prog 36 (codeAt [1, 1, 0, 1, 0, 0] (bodyOf Try.f30)) (thenQ (VL Try.prog 36 (codeAt [1, 1, 0, 1, 0, 0] (bodyOf Try.f30)) Q) Q) ⟨[(0, .sl .fz (a0.map (cSl Pr.c))), (3, .int .i64 size_4694), (9, .sl .fz (a0.map (cSl Pr.c))), (10, .int .i64 (a0.length : Int)), (11, .int .i64 x_4695)], []⟩ (hq [] [])) ?_
  intro _ ih size_4694 x_4695 o h hx0
  refine VW.seq (VW.region (VO.t (v := .bool (decide (x_4695 < (a0.length : Int)))) (t_cmp rfl rfl rfl rfl rfl) rfl rfl (VO.nil (thenQ_normal (VW.seq ?_)))))
  refine VW.cond (b := (decide (x_4695 < (a0.length : Int)))) rfl (fun hc_4700 => ?_) (fun hc_4700 => ?_)
  · replace h := iteT h hc_4700
    refine VW.skip (thenQ_normal (VW.subK (.c 0 rfl (.c 3 rfl (.c 9 rfl (.c 10 rfl (.c 11 rfl .n))))) rfl (VW.seq (VW.block (VW.seq (VW.region ?_))))))
    obtain ⟨c_4701, hc_4701, h⟩ := obind h
    refine VO.t (v := .vptr [.sl .fz (c_4701.map Pr.c)]) (t_indexAddr rfl sl66 rfl rfl (getI_some hc_4701).1 (map_get (getI_some hc_4701).2 rfl) rfl) rfl rfl (VO.r (v := .sl .fz (c_4701.map Pr.c)) (r_load_v rfl sz22 rfl rfl) rfl rfl (VO.t (v := .sl .fz (c_4701.map Pr.c)) (t_assign rfl rfl) rfl rfl (VO.nil (thenQ_normal (VW.subK (.c 0 rfl (.c 3 rfl (.c 9 rfl (.c 10 rfl (.c 11 rfl (.c 5 rfl .n)))))) rfl (VW.seq (VW.region (VO.t (t_move rfl rfl) rfl rfl (VO.t (t_move rfl rfl) rfl rfl ?_)))))))))
    refine VO.t (v := .int .i64 (c_4701.length : Int)) (t_len rfl ⟨_, Try.underlying22⟩ rfl (by rw [List.length_map])) rfl rfl (VO.t (v := .int .i64 (w64 (size_4694 + (c_4701.length : Int)))) (t_add rfl rfl rfl rfl) rfl rfl (VO.t (v := .int .i64 (w64 (size_4694 + (c_4701.length : Int)))) (t_assign rfl rfl) rfl rfl (VO.nil (thenQ_normal (VW.subK (.c 0 rfl (.c 9 rfl (.c 10 rfl (.c 11 rfl (.c 3 rfl .n))))) rfl (VW.seq (VW.region (VO.t (t_move rfl rfl) rfl rfl (VO.t (v := .bool (decide ((w64 (size_4694 + (c_4701.length : Int))) < 0))) (t_cmp rfl rfl rfl (fun _ _ => rfl) rfl) rfl rfl ?_)))))))))
    refine VO.nil (thenQ_normal (VW.subK (.c 0 rfl (.c 9 rfl (.c 10 rfl (.c 11 rfl (.c 3 rfl (.c 20 rfl .n)))))) rfl ?_))
    refine VW.cond (b := (decide ((w64 (size_4694 + (c_4701.length : Int))) < 0))) rfl (fun hc_4702 => ?_) (fun hc_4702 => ?_)
    · replace h := iteT h hc_4702
      cases h
    · replace h := iteF h hc_4702
      refine VW.skip (blockQ_normal (thenQ_normal (VW.subK (.c 0 rfl (.c 9 rfl (.c 10 rfl (.c 11 rfl (.c 3 rfl .n))))) rfl (VW.region (VO.t (v := .int .i64 (w64 (x_4695 + 1))) (t_add rfl rfl (fun _ _ => rfl) rfl) rfl rfl (VO.t (t_move rfl rfl) rfl rfl (VO.nil (thenQ_normal (VL.round ?_)))))))))
      refine VW.subK (.c 0 rfl (.c 3 rfl (.c 9 rfl (.c 10 rfl (.c 11 rfl .n))))) rfl ?_
      exact ih _ _ _ h hx0
  · replace h := iteF h hc_4700
    refine VW.subK (.c 0 rfl (.c 3 rfl .n)) rfl (VW.exit (thenQ_exit (thenQ_exit ?_)))
    have h := Option.some.inj h
    subst h
    exact hx0 _ rfl

theorem slices_Concat_2int2int.l1_ok (a0 : List (List Pr)) {Q : Exit → Env → HH → Prop} :
    ∀ (newslice_4736 : List Pr) (x_4738 : Int) (o : (List Pr)), PL.slices_Concat_2int2int.l1 a0 newslice_4736 x_4738 = some o →
    ∀ (vbu4737 : VV) (bbu4737 : Seg) (hbu4737 : Buf 2 (newslice_4736.map Pr.c) vbu4737 bbu4737) (hx0 : ∀ (newslice_4743 : List Pr) (vbu4744 : VV) (bbu4744 : Seg), newslice_4743 = o → Buf 2 (newslice_4743.map Pr.c) vbu4744 bbu4744 → Q (.exit 2) ⟨[(6, vbu4744)], []⟩ (hq ([bbu4744]) [])), VW Try.prog 36 (codeAt [1, 1, 1, 1, 0, 1, 0, 0] (bodyOf Try.f30)) (thenQ (VL Try.prog 36 (codeAt [1, 1, 1, 1, 0, 1, 0, 0] (bodyOf Try.f30)) Q) Q) ⟨[(6, vbu4737), (25, .sl .fz (a0.map (cSl Pr.c))), (26, .int .i64 (a0.length : Int)), (27, .int .i64 x_4738)], []⟩ (hq ([bbu4737]) []) := by
  refine PL.slices_Concat_2int2int.l1.partial_correctness a0 (motive := fun newslice_4736 x_4738 o => ∀ (vbu4737 : VV) (bbu4737 : Seg) (hbu4737 : Buf 2 (newslice_4736.map Pr.c) vbu4737 bbu4737) (hx0 : ∀ (newslice_4743 : List Pr) (vbu4744 : VV) (bbu4744 : Seg), newslice_4743 = o → Buf 2 (newslice_4743.map Pr.c) vbu4744 bbu4744 → Q (.exit 2) ⟨[(6, vbu4744)], []⟩ (hq ([bbu4744]) [])), VW Try.prog 36 (codeAt [1, 1, 1, 1, 0, 1, 0, 0] (bodyOf Try.f30)) (thenQ (VL Try.prog 36 (codeAt [1, 1, 1, 1, 0, 1, 0, 0] (bodyOf Try.f30)) Q) Q) ⟨[(6, vbu4737), (25, .sl .fz (a0.map (cSl Pr.c))), (26, .int .i64 (a0.length : Int)), (27, .int .i64 x_4738)], []⟩ (hq ([bbu4737]) [])) ?_
  intro _ ih newslice_4736 x_4738 o h vbu4737 bbu4737 hbu4737 hx0
  refine VW.seq (VW.region (VO.t (v := .bool (decide (x_4738 < (a0.length : Int)))) (t_cmp rfl rfl rfl rfl rfl) rfl rfl (VO.nil (thenQ_normal (VW.seq ?_)))))
  refine VW.cond (b := (decide (x_4738 < (a0.length : Int)))) rfl (fun hc_4745 => ?_) (fun hc_4745 => ?_)
  · replace h := iteT h hc_4745
    refine VW.skip (thenQ_normal (VW.subK (.c 6 rfl (.c 25 rfl (.c 26 rfl (.c 27 rfl .n)))) rfl (VW.seq (VW.block (VW.seq (VW.region ?_))))))
    obtain ⟨c_4746, hc_4746, h⟩ := obind h
    refine VO.t (v := .vptr [.sl .fz (c_4746.map Pr.c)]) (t_indexAddr rfl sl66 rfl rfl (getI_some hc_4746).1 (map_get (getI_some hc_4746).2 rfl) rfl) rfl rfl (VO.r (v := .sl .fz (c_4746.map Pr.c)) (r_load_v rfl sz22 rfl rfl) rfl rfl (VO.t (v := .sl .fz (c_4746.map Pr.c)) (t_assign rfl rfl) rfl rfl (VO.nil (thenQ_normal (VW.subK (.c 6 rfl (.c 25 rfl (.c 26 rfl (.c 27 rfl (.c 8 rfl .n))))) rfl (VW.region (VO.t (t_move rfl rfl) rfl rfl (VO.t (t_move rfl rfl) rfl rfl ?_))))))))
    obtain ⟨_, hr_4747, h⟩ := obind h
    refine VO.w (fun v H' => ∃ vbu_4748 bbu_4748, Buf 2 ((newslice_4736 ++ c_4746).map Pr.c) vbu_4748 bbu_4748 ∧ vbu_4748 = v ∧ H' = hq ([bbu_4748]) []) (w_append_buf (i := 0) rfl el22 rfl rfl hbu4737 rfl (elemsOK_map Pr.c_ok _) (by have := room_some hr_4747; simpa using this) (Nat.le_of_ble_eq_true rfl) (fun v b hB => ⟨v, b, by simpa using hB, rfl, rfl⟩)) rfl rfl ?_
    rintro _ _ ⟨vbu_4748, bbu_4748, hbu_4748, rfl, rfl⟩
    refine VO.t (v := vbu_4748) (t_assign rfl rfl) rfl rfl (VO.nil (blockQ_normal (thenQ_normal (VW.subK (.c 25 rfl (.c 26 rfl (.c 27 rfl (.c 6 rfl .n)))) rfl (VW.region (VO.t (v := .int .i64 (w64 (x_4738 + 1))) (t_add rfl rfl (fun _ _ => rfl) rfl) rfl rfl (VO.t (t_move rfl rfl) rfl rfl (VO.nil (thenQ_normal (VL.round ?_))))))))))
    refine VW.subK (.c 6 rfl (.c 25 rfl (.c 26 rfl (.c 27 rfl .n)))) rfl ?_
    exact ih _ _ _ h vbu_4748 bbu_4748 hbu_4748 hx0
  · replace h := iteF h hc_4745
    refine VW.subK (.c 6 rfl .n) rfl (VW.exit (thenQ_exit (thenQ_exit ?_)))
    have h := Option.some.inj h
    subst h
    exact hx0 _ vbu4737 bbu4737 rfl hbu4737

theorem slices_Concat_2int2int_ok (a0 : List (List Pr)) (r : List Pr) (h : PL.slices_Concat_2int2int a0 = some r) :
    VCalls Try.prog 30 [.sl .fz (a0.map (cSl Pr.c))] (hq [] []) (fun v H => ∃ vr0 br0, Buf 2 (r.map Pr.c) vr0 br0 ∧ vr0 = v ∧ H = hq [br0] []) := by
  unfold PL.slices_Concat_2int2int at h
  refine VCalls.of_body 36 [2] Try.func30 rfl rfl rfl (Nat.le_of_ble_eq_true rfl) (VW.subK (.c 0 rfl .n) rfl (VW.seq (VW.region (VO.t (v := .sl .nl []) (t_assign rfl (fun _ _ => .inl ⟨rfl, .inl rfl⟩)) rfl rfl (VO.eqv (A := hq ([[]]) []) (.refl _) (VO.nil (thenQ_normal (VW.subK (.c 0 rfl .n) rfl (VW.hsub (A := hq [] []) (hq_sub (.cons _ .slnil) .slnil) ?_)))))))))
  refine VW.seq (VW.region (VO.t (v := .int .i64 0) (t_assign rfl (fun _ _ => rfl)) rfl rfl (VO.nil (thenQ_normal (VW.seq (VW.seq (VW.region (VO.t (t_move rfl rfl) rfl rfl (VO.t (v := .int .i64 (a0.length : Int)) (t_len rfl ⟨_, Try.underlying66⟩ rfl (by rw [List.length_map])) rfl rfl ?_)))))))))
  refine VO.t (v := .int .i64 0) (t_move rfl (fun _ _ => rfl)) rfl rfl (VO.nil (thenQ_normal (VW.block (VW.subK (.c 0 rfl (.c 3 rfl (.c 9 rfl (.c 10 rfl (.c 11 rfl .n))))) rfl ?_))))
  obtain ⟨o_4703, hx_4704, h⟩ := obind h
  refine VW.loopL (slices_Concat_2int2int.l0_ok a0 _ _ _ hx_4704 ?_)
  · intro size_4699 ho_
    subst ho_
    try dsimp only at h
    refine blockQ_hit (thenQ_normal (VW.seq (VW.region (VO.t (t_move rfl rfl) rfl rfl ?_))))
    obtain ⟨rv_4705, hx_4706, h⟩ := obind h
    refine VO.w (fun v H' => ∃ vr0_4707 br0_4708, Buf 2 (rv_4705.map Pr.c) vr0_4707 br0_4708 ∧ vr0_4707 = v ∧ H' = hq ([br0_4708]) []) (w_call_q (sa := [[]]) (sg := []) (tks := []) rfl fn47 rfl ⟨.sl .nl [], _, rfl, (fun _ _ => .inl ⟨rfl, .inl rfl⟩), _, _, rfl, rfl, rfl⟩ (slices_Grow_2int2int_ok _ _ hx_4706) (by rintro v H' ⟨vr0_4707, br0_4708, h_0, rfl, rfl⟩; exact ⟨[br0_4708, []], rfl, vr0_4707, br0_4708, h_0, rfl, rfl⟩)) rfl rfl ?_
    rintro _ _ ⟨vr0_4707, br0_4708, hB_4710, rfl, rfl⟩
    refine VO.t (v := vr0_4707) (t_assign rfl rfl) rfl rfl (VO.nil (thenQ_normal (VW.subK (.c 0 rfl (.c 6 rfl .n)) rfl (VW.seq (VW.seq (VW.region (VO.t (t_move rfl rfl) rfl rfl (VO.t (v := .int .i64 (a0.length : Int)) (t_len rfl ⟨_, Try.underlying66⟩ rfl (by rw [List.length_map])) rfl rfl (VO.t (v := .int .i64 0) (t_move rfl (fun _ _ => rfl)) rfl rfl ?_)))))))))
    refine VO.nil (thenQ_normal (VW.subK (.c 6 rfl (.c 25 rfl (.c 26 rfl (.c 27 rfl .n)))) rfl (VW.block (VW.subK (.c 6 rfl (.c 25 rfl (.c 26 rfl (.c 27 rfl .n)))) rfl ?_))))
    obtain ⟨o_4749, hx_4750, h⟩ := obind h
    refine VW.loopL (slices_Concat_2int2int.l1_ok a0 _ _ _ hx_4750 vr0_4707 br0_4708 hB_4710 ?_)
    · intro newslice_4743 vbu4744 bbu4744 ho_ hbu4744
      subst ho_
      try dsimp only at h
      refine blockQ_hit (thenQ_normal (VW.seq (VW.region (VO.t (t_move rfl rfl) rfl rfl (VO.t (v := vbu4744) (t_assign rfl rfl) rfl rfl (VO.nil (thenQ_normal (VW.subK (.c 2 rfl .n) rfl (VW.ret ?_)))))))))
      have h := Option.some.inj h
      subst h
      exact ⟨.inr rfl, rfl, _, vbu4744, hq [bbu4744] [], rfl, VLe.refl _, hq_sub (.cons_cons _ .slnil) .slnil, vbu4744, bbu4744, hbu4744, rfl, rfl⟩

theorem set_common.l0_ok (a0 : List Pr) (a1 : List Pr) {Q : Exit → Env → HH → Prop} :
    ∀ (out_4897 : List Pr) (i_4900 : Int) (j_4901 : Int) (o : (List Pr)), PL.set_common.l0 a0 a1 out_4897 i_4900 j_4901 = some o →
    ∀ (tk_4898 : Tok) (hg_4899 : Tok.grow tk_4898 2 (out_4897.map Pr.c)) (hx0 : ∀ (out_4923 : List Pr) (tk_4924 : Tok), out_4923 = o → Tok.grow tk_4924 2 (out_4923.map Pr.c) → Q (.exit 0) ⟨[(5, .sl tk_4924 (out_4923.map Pr.c))], []⟩ (hq [] ([tk_4924]))), VW Try.prog 67 (codeAt [1, 1, 0, 1, 0, 0] (bodyOf Try.f32)) (thenQ (VL Try.prog 67 (codeAt [1, 1, 0, 1, 0, 0] (bodyOf Try.f32)) Q) Q) ⟨[(0, .sl .fz (a0.map Pr.c)), (1, .sl .fz (a1.map Pr.c)), (5, .sl tk_4898 (out_4897.map Pr.c)), (6, .int .i64 i_4900), (7, .int .i64 j_4901)], []⟩ (hq [] ([tk_4898])) := by
  refine PL.set_common.l0.partial_correctness a0 a1 (motive := fun out_4897 i_4900 j_4901 o => ∀ (tk_4898 : Tok) (hg_4899 : Tok.grow tk_4898 2 (out_4897.map Pr.c)) (hx0 : ∀ (out_4923 : List Pr) (tk_4924 : Tok), out_4923 = o → Tok.grow tk_4924 2 (out_4923.map Pr.c) → Q (.exit 0) ⟨[(5, .sl tk_4924 (out_4923.map Pr.c))], []⟩ (hq [] ([tk_4924]))), VW Try.prog 67 (codeAt [1, 1, 0, 1, 0, 0] (bodyOf Try.f32)) (thenQ (VL Try.prog 67 (codeAt [1, 1, 0, 1, 0, 0] (bodyOf Try.f32)) Q) Q) ⟨[(0, .sl .fz (a0.map Pr.c)), (1, .sl .fz (a1.map Pr.c)), (5, .sl tk_4898 (out_4897.map Pr.c)), (6, .int .i64 i_4900), (7, .int .i64 j_4901)], []⟩ (hq [] ([tk_4898]))) ?_
  intro _ ih out_4897 i_4900 j_4901 o h tk_4898 hg_4899 hx0
  refine VW.seq (VW.seq (VW.region (VO.t (t_move rfl rfl) rfl rfl (VO.t (t_move rfl rfl) rfl rfl (VO.t (v := .int .i64 (a0.length : Int)) (t_len rfl ⟨_, Try.underlying22⟩ rfl (by rw [List.length_map])) rfl rfl (VO.t (v := .bool (decide (i_4900 < (a0.length : Int)))) (t_cmp rfl rfl rfl rfl rfl) rfl rfl (VO.t (t_move rfl rfl) rfl rfl ?_)))))))
  refine VO.caseB (d := 14) (b := (decide (i_4900 < (a0.length : Int)))) rfl (fun hc_4926 => ?_) (fun hc_4926 => ?_)
  · replace h := iteT h hc_4926
    refine VO.gt (v := .int .i64 j_4901) (t_move rfl rfl) rfl rfl rfl rfl (VO.gt (v := .sl .fz (a1.map Pr.c)) (t_move rfl rfl) rfl rfl rfl rfl (VO.gt (v := .int .i64 (a1.length : Int)) (t_len rfl ⟨_, Try.underlying22⟩ rfl (by rw [List.length_map])) rfl rfl rfl rfl (VO.gt (v := .bool (decide (j_4901 < (a1.length : Int)))) (t_cmp rfl rfl rfl rfl rfl) rfl rfl rfl rfl (VO.t (v := .bool (decide (j_4901 < (a1.length : Int)))) (t_pick (b := true) rfl rfl (fun _ => rfl) (fun h => by cases h)) rfl rfl (VO.nil (thenQ_normal (VW.subK (.c 0 rfl (.c 1 rfl (.c 5 rfl (.c 6 rfl (.c 7 rfl (.c 15 rfl (.c 16 rfl (.c 17 rfl (.c 18 rfl (.c 19 rfl .n)))))))))) rfl ?_)))))))
    refine VW.cond (b := (decide (j_4901 < (a1.length : Int)))) rfl (fun hc_4927 => ?_) (fun hc_4927 => ?_)
    · replace h := iteT h hc_4927
      refine VW.skip (thenQ_normal (VW.subK (.c 0 rfl (.c 1 rfl (.c 5 rfl (.c 6 rfl (.c 7 rfl (.c 15 rfl (.c 16 rfl (.c 17 rfl (.c 18 rfl .n))))))))) rfl (VW.block (VW.seq (VW.seq (VW.draw 24 mix rfl (VA.phase (g := 0) [0, 1, 2, 3, 4, 5, 6, 7, 8, 9, 10, 11, 12, 13, 14, 15, 16, 17, 18, 19, 20, 21, 22, 23] 24 (VP.take (i := 0) rfl (TOp.r (t_move rfl rfl)) (.inl rfl) (by kernel_rfl) (VP.take (i := 1) rfl (TOp.r (t_move rfl rfl)) (.inl rfl) (by kernel_rfl) ?_)))))))))
      obtain ⟨c_4930, hc_4930, h⟩ := obind h
      refine VP.take (i := 2) (v := .vptr [.int .i64 c_4930.x0, .int .i64 c_4930.x1]) rfl (TOp.r (t_indexAddr rfl sl22 rfl rfl (getI_some hc_4930).1 (map_get (getI_some hc_4930).2 (Pr.c_eq c_4930)) rfl)) (.inl rfl) (by kernel_rfl) (VP.take (i := 3) (v := .vptr [.int .i64 c_4930.x0, .int .i64 c_4930.x1]) rfl (TOp.r (t_indexAddr_arr rfl ar49 rfl (fun _ _ => rfl) (by decide) (by decide) rfl)) (.inl rfl) (by kernel_rfl) (VP.take (i := 4) (v := .int .i64 c_4930.x0) rfl (r_load_v rfl sz3 rfl rfl) (.inl rfl) (by kernel_rfl) (VP.take (i := 5) rfl (TOp.r (t_move rfl rfl)) (.inl rfl) (by kernel_rfl) (VP.take (i := 6) rfl (TOp.r (t_move rfl rfl)) (.inl rfl) (by kernel_rfl) ?_))))
      obtain ⟨c_4931, hc_4931, h⟩ := obind h
      refine VP.take (i := 7) (v := .vptr [.int .i64 c_4931.x0, .int .i64 c_4931.x1]) rfl (TOp.r (t_indexAddr rfl sl22 rfl rfl (getI_some hc_4931).1 (map_get (getI_some hc_4931).2 (Pr.c_eq c_4931)) rfl)) (.inl rfl) (by kernel_rfl) (VP.take (i := 8) (v := .vptr [.int .i64 c_4931.x0, .int .i64 c_4931.x1]) rfl (TOp.r (t_indexAddr_arr rfl ar49 rfl (fun _ _ => rfl) (by decide) (by decide) rfl)) (.inl rfl) (by kernel_rfl) (VP.take (i := 9) (v := .int .i64 c_4931.x0) rfl (r_load_v rfl sz3 rfl rfl) (.inl rfl) (by kernel_rfl) (VP.take (i := 10) (v := .int .i64 (max c_4930.x0 c_4931.x0)) rfl (TOp.r (t_max rfl rfl rfl rfl)) (.inl rfl) (by kernel_rfl) (VP.take (i := 11) rfl (TOp.r (t_move rfl rfl)) (.inl rfl) (by kernel_rfl) (VP.take (i := 12) rfl (TOp.r (t_move rfl rfl)) (.inl rfl) (by kernel_rfl) (VP.take (i := 13) (v := .vptr [.int .i64 c_4930.x0, .int .i64 c_4930.x1]) rfl (TOp.r (t_indexAddr rfl sl22 rfl rfl (getI_some hc_4930).1 (map_get (getI_some hc_4930).2 (Pr.c_eq c_4930)) rfl)) (.inl rfl) (by kernel_rfl) (VP.take (i := 14) (v := .vptr [.int .i64 c_4930.x1]) rfl (TOp.r (t_indexAddr_arr rfl ar49 rfl (fun _ _ => rfl) (by decide) (by decide) rfl)) (.inl rfl) (by kernel_rfl) (VP.take (i := 15) (v := .int .i64 c_4930.x1) rfl (r_load_v rfl sz3 rfl rfl) (.inl rfl) (by kernel_rfl) (VP.take (i := 16) rfl (TOp.r (t_move rfl rfl)) (.inl rfl) (by kernel_rfl) ?_)))))))))
      refine VP.take (i := 17) rfl (TOp.r (t_move rfl rfl)) (.inl rfl) (by kernel_rfl) (VP.take (i := 18) (v := .vptr [.int .i64 c_4931.x0, .int .i64 c_4931.x1]) rfl (TOp.r (t_indexAddr rfl sl22 rfl rfl (getI_some hc_4931).1 (map_get (getI_some hc_4931).2 (Pr.c_eq c_4931)) rfl)) (.inl rfl) (by kernel_rfl) (VP.take (i := 19) (v := .vptr [.int .i64 c_4931.x1]) rfl (TOp.r (t_indexAddr_arr rfl ar49 rfl (fun _ _ => rfl) (by decide) (by decide) rfl)) (.inl rfl) (by kernel_rfl) (VP.take (i := 20) (v := .int .i64 c_4931.x1) rfl (r_load_v rfl sz3 rfl rfl) (.inl rfl) (by kernel_rfl) (VP.take (i := 21) (v := .int .i64 (min c_4930.x1 c_4931.x1)) rfl (TOp.r (t_min rfl rfl rfl rfl)) (.inl rfl) (by kernel_rfl) (VP.take (i := 22) (v := .int .i64 (max c_4930.x0 c_4931.x0)) rfl (TOp.r (t_assign rfl rfl)) (.inl rfl) (by kernel_rfl) (VP.take (i := 23) (v := .int .i64 (min c_4930.x1 c_4931.x1)) rfl (TOp.r (t_assign rfl rfl)) (.inl rfl) (by kernel_rfl) (VP.done (by kernel_rfl) (VA.done (by kernel_rfl) (thenQ_normal ?_)))))))))
      refine VW.subK (.c 0 rfl (.c 1 rfl (.c 5 rfl (.c 6 rfl (.c 7 rfl (.c 15 rfl (.c 16 rfl (.c 17 rfl (.c 18 rfl (.c 8 rfl (.c 9 rfl .n))))))))))) rfl (VW.seq (VW.region (VO.t (t_move rfl rfl) rfl rfl (VO.t (t_move rfl rfl) rfl rfl (VO.t (v := .bool (decide ((max c_4930.x0 c_4931.x0) ≤ (min c_4930.x1 c_4931.x1)))) (t_cmp rfl rfl rfl rfl rfl) rfl rfl (VO.nil (thenQ_normal (VW.subK (.c 0 rfl (.c 1 rfl (.c 5 rfl (.c 6 rfl (.c 7 rfl (.c 15 rfl (.c 16 rfl (.c 17 rfl (.c 18 rfl (.c 8 rfl (.c 9 rfl (.c 44 rfl .n)))))))))))) rfl ?_))))))))
      obtain ⟨o_4941, h, hx_4939⟩ := obind h
      refine VW.joinQ (E := List Pr × Tok) (I := fun ⟨out_4936, tk_4937⟩ => out_4936 = o_4941 ∧ Tok.grow tk_4937 2 (out_4936.map Pr.c) ∧ True) (env' := fun ⟨out_4936, tk_4937⟩ => ⟨[(0, .sl .fz (a0.map Pr.c)), (1, .sl .fz (a1.map Pr.c)), (6, .int .i64 i_4900), (7, .int .i64 j_4901), (15, .int .i64 j_4901), (16, .sl .fz (a1.map Pr.c)), (17, .int .i64 (a1.length : Int)), (18, .bool (decide (j_4901 < (a1.length : Int)))), (5, .sl tk_4937 (out_4936.map Pr.c))], []⟩) (H' := fun ⟨out_4936, tk_4937⟩ => hq [] ([tk_4937])) ?_ (fun J_4940 => ?_)
      · rintro ⟨out_4936, tk_4937⟩ ⟨ho_, hg_4938, _⟩
        subst ho_
        replace h := hx_4939
        clear hx_4939
        try dsimp only at h
        show VW _ _ _ _ ⟨[(0, .sl .fz (a0.map Pr.c)), (1, .sl .fz (a1.map Pr.c)), (6, .int .i64 i_4900), (7, .int .i64 j_4901), (15, .int .i64 j_4901), (16, .sl .fz (a1.map Pr.c)), (17, .int .i64 (a1.length : Int)), (18, .bool (decide (j_4901 < (a1.length : Int)))), (5, .sl tk_4937 (out_4936.map Pr.c))], []⟩ (hq [] ([tk_4937]))
        refine VW.seq (VW.draw 11 mix rfl (VA.phase (g := 0) [0, 1, 2, 3, 4, 5, 6, 7, 8, 9, 10] 11 (VP.take (i := 0) rfl (TOp.r (t_move rfl rfl)) (.inl rfl) (by kernel_rfl) (VP.take (i := 1) rfl (TOp.r (t_move rfl rfl)) (.inl rfl) (by kernel_rfl) (VP.take (i := 2) (v := .vptr [.int .i64 c_4930.x0, .int .i64 c_4930.x1]) rfl (TOp.r (t_indexAddr rfl sl22 rfl rfl (getI_some hc_4930).1 (map_get (getI_some hc_4930).2 (Pr.c_eq c_4930)) rfl)) (.inl rfl) (by kernel_rfl) (VP.take (i := 3) (v := .vptr [.int .i64 c_4930.x1]) rfl (TOp.r (t_indexAddr_arr rfl ar49 rfl (fun _ _ => rfl) (by decide) (by decide) rfl)) (.inl rfl) (by kernel_rfl) (VP.take (i := 4) (v := .int .i64 c_4930.x1) rfl (r_load_v rfl sz3 rfl rfl) (.inl rfl) (by kernel_rfl) (VP.take (i := 5) rfl (TOp.r (t_move rfl rfl)) (.inl rfl) (by kernel_rfl) (VP.take (i := 6) rfl (TOp.r (t_move rfl rfl)) (.inl rfl) (by kernel_rfl) ?_)))))))))
        refine VP.take (i := 7) (v := .vptr [.int .i64 c_4931.x0, .int .i64 c_4931.x1]) rfl (TOp.r (t_indexAddr rfl sl22 rfl rfl (getI_some hc_4931).1 (map_get (getI_some hc_4931).2 (Pr.c_eq c_4931)) rfl)) (.inl rfl) (by kernel_rfl) (VP.take (i := 8) (v := .vptr [.int .i64 c_4931.x1]) rfl (TOp.r (t_indexAddr_arr rfl ar49 rfl (fun _ _ => rfl) (by decide) (by decide) rfl)) (.inl rfl) (by kernel_rfl) (VP.take (i := 9) (v := .int .i64 c_4931.x1) rfl (r_load_v rfl sz3 rfl rfl) (.inl rfl) (by kernel_rfl) (VP.take (i := 10) (v := .bool (decide (c_4930.x1 < c_4931.x1))) rfl (TOp.r (t_cmp rfl rfl rfl rfl rfl)) (.inl rfl) (by kernel_rfl) (VP.done (by kernel_rfl) (VA.done (by kernel_rfl) (thenQ_normal (VW.subK (.c 0 rfl (.c 1 rfl (.c 6 rfl (.c 7 rfl (.c 15 rfl (.c 16 rfl (.c 17 rfl (.c 18 rfl (.c 5 rfl (.c 61 rfl .n)))))))))) rfl ?_)))))))
        refine VW.cond (b := (decide (c_4930.x1 < c_4931.x1))) rfl (fun hc_4942 => ?_) (fun hc_4942 => ?_)
        · replace h := iteT h hc_4942
          refine VW.region (VO.t (t_move rfl rfl) rfl rfl (VO.t (v := .int .i64 (w64 (i_4900 + 1))) (t_add rfl rfl (fun _ _ => rfl) rfl) rfl rfl (VO.t (v := .int .i64 (w64 (i_4900 + 1))) (t_assign rfl rfl) rfl rfl (VO.nil (blockQ_normal (thenQ_normal (VL.round ?_)))))))
          refine VW.subK (.c 0 rfl (.c 1 rfl (.c 5 rfl (.c 6 rfl (.c 7 rfl .n))))) rfl ?_
          exact ih _ _ _ _ h tk_4937 hg_4938 hx0
        · replace h := iteF h hc_4942
          refine VW.region (VO.t (t_move rfl rfl) rfl rfl (VO.t (v := .int .i64 (w64 (j_4901 + 1))) (t_add rfl rfl (fun _ _ => rfl) rfl) rfl rfl (VO.t (v := .int .i64 (w64 (j_4901 + 1))) (t_assign rfl rfl) rfl rfl (VO.nil (blockQ_normal (thenQ_normal (VL.round ?_)))))))
          refine VW.subK (.c 0 rfl (.c 1 rfl (.c 5 rfl (.c 6 rfl (.c 7 rfl .n))))) rfl ?_
          exact ih _ _ _ _ h tk_4937 hg_4938 hx0
      · refine VW.cond (b := (decide ((max c_4930.x0 c_4931.x0) ≤ (min c_4930.x1 c_4931.x1)))) rfl (fun hc_4943 => ?_) (fun hc_4943 => ?_)
        · replace h := iteT h hc_4943
          refine VW.region (VO.t (t_move rfl rfl) rfl rfl (VO.t (t_move rfl rfl) rfl rfl (VO.t (t_move rfl rfl) rfl rfl (VO.t (v := .agg [.int .i64 (max c_4930.x0 c_4931.x0), .int .i64 (min c_4930.x1 c_4931.x1)]) (t_build_arr rfl av49 ⟨_, _, rfl, rfl, rfl, _, _, rfl, rfl, rfl, rfl⟩ rfl) rfl rfl (VO.w (fun v H' => ∃ t_4944, .sl (.cap t_4944 2) (([Pr.mk (max c_4930.x0 c_4931.x0) (min c_4930.x1 c_4931.x1)]).map Pr.c) = v ∧ H' = hq [] ([.cap t_4944 2, tk_4898])) (w_buildSlice (l := [[.int .i64 (max c_4930.x0 c_4931.x0), .int .i64 (min c_4930.x1 c_4931.x1)]]) rfl el22 ⟨rfl, _, _, rfl, rfl, rfl, rfl, rfl⟩ rfl (Nat.le_of_ble_eq_true rfl) (fun tk => ⟨tk, by simp only [List.map_cons, List.map_nil, Pr.c_eq], rfl⟩)) rfl rfl ?_)))))
          rintro _ _ ⟨t_4944, rfl, rfl⟩
          obtain ⟨_, hr_4945, h⟩ := obind h
          refine VO.w (fun v H' => ∃ t_4946, .sl (.cap t_4946 2) ((out_4897 ++ ([Pr.mk (max c_4930.x0 c_4931.x0) (min c_4930.x1 c_4931.x1)])).map Pr.c) = v ∧ H' = hq [] ([.cap t_4946 2, .cap t_4944 2])) (w_append (objs := List.flatten []) (tks := [.cap t_4944 2, tk_4898]) (i := 1) rfl el22 rfl rfl hg_4899 rfl (elemsOK_map Pr.c_ok _) (by have := room_some hr_4945; simpa using this) (Nat.le_of_ble_eq_true rfl) (fun t => ⟨t, by simp only [List.map_append, List.map_nil, List.nil_append], rfl⟩)) rfl rfl ?_
          rintro _ _ ⟨t_4946, rfl, rfl⟩
          refine VO.t (v := .sl (.cap t_4946 2) ((out_4897 ++ ([Pr.mk (max c_4930.x0 c_4931.x0) (min c_4930.x1 c_4931.x1)])).map Pr.c)) (t_assign rfl rfl) rfl rfl (VO.subK (.c 0 rfl (.c 1 rfl (.c 6 rfl (.c 7 rfl (.c 15 rfl (.c 16 rfl (.c 17 rfl (.c 18 rfl (.c 5 rfl .n))))))))) rfl (VO.hsub (A := hq [] ([.cap t_4946 2])) (hq_sub .slnil (.cons_cons _ (.cons _ .slnil))) (VO.nil ?_)))
          exact thenQ_normal (J_4940 ⟨out_4897 ++ ([Pr.mk (max c_4930.x0 c_4931.x0) (min c_4930.x1 c_4931.x1)]), (.cap t_4946 2)⟩ ⟨Option.some.inj h, (.inr ⟨_, rfl⟩), trivial⟩)
        · replace h := iteF h hc_4943
          refine VW.subK (.c 0 rfl (.c 1 rfl (.c 6 rfl (.c 7 rfl (.c 15 rfl (.c 16 rfl (.c 17 rfl (.c 18 rfl (.c 5 rfl .n))))))))) rfl (VW.skip ?_)
          exact thenQ_normal (J_4940 ⟨out_4897, tk_4898⟩ ⟨Option.some.inj h, hg_4899, trivial⟩)
    · replace h := iteF h hc_4927
      refine VW.subK (.c 5 rfl .n) rfl (VW.exit (thenQ_exit (thenQ_exit ?_)))
      have h := Option.some.inj h
      subst h
      exact hx0 _ tk_4898 rfl hg_4899
  · replace h := iteF h hc_4926
    refine VO.gskip rfl rfl rfl rfl rfl (VO.gskip rfl rfl rfl rfl rfl (VO.gskip rfl rfl rfl rfl rfl (VO.gskip rfl rfl rfl rfl rfl (VO.t (v := .bool false) (t_pick (b := false) rfl rfl (fun h => by cases h) (fun _ => (fun _ _ => rfl))) rfl rfl (VO.nil (thenQ_normal (VW.subK (.c 0 rfl (.c 1 rfl (.c 5 rfl (.c 6 rfl (.c 7 rfl (.c 15 rfl (.c 16 rfl (.c 17 rfl (.c 18 rfl (.c 19 rfl .n)))))))))) rfl (VW.condF rfl (VW.subK (.c 5 rfl .n) rfl ?_)))))))))
    refine VW.exit (thenQ_exit (thenQ_exit ?_))
    have h := Option.some.inj h
    subst h
    exact hx0 _ tk_4898 rfl hg_4899

theorem set_common_ok (a0 : List Pr) (a1 : List Pr) (r : List Pr) (h : PL.set_common a0 a1 = some r) :
    VCalls Try.prog 32 [.sl .fz (a0.map Pr.c), .sl .fz (a1.map Pr.c)] (hq [] []) (fun v H => .sl .fz (r.map Pr.c) = v ∧ H = hq [] []) := by
  unfold PL.set_common at h
  refine VCalls.of_body 67 [4] Try.func32 rfl rfl rfl (Nat.le_of_ble_eq_true rfl) (VW.subK (.c 0 rfl (.c 1 rfl .n)) rfl (VW.seq (VW.region (VO.t (v := .sl .nl []) (t_assign rfl (fun _ _ => .inl ⟨rfl, .inl rfl⟩)) rfl rfl (VO.nil (thenQ_normal (VW.subK (.c 0 rfl (.c 1 rfl .n)) rfl (VW.seq (VW.region ?_)))))))))
  refine VO.t (v := .sl .nl []) (t_assign rfl (fun _ _ => .inl ⟨rfl, .inl rfl⟩)) rfl rfl (VO.nil (thenQ_normal (VW.seq (VW.seq (VW.region (VO.t (v := .int .i64 0) (t_assign rfl (fun _ _ => rfl)) rfl rfl (VO.t (v := .int .i64 0) (t_assign rfl (fun _ _ => rfl)) rfl rfl (VO.nil (thenQ_normal ?_)))))))))
  refine VW.block (VW.subK (.c 0 rfl (.c 1 rfl (.c 5 rfl (.c 6 rfl (.c 7 rfl .n))))) rfl (VW.eqv (A := hq [] ([.nl])) (.refl _) ?_))
  obtain ⟨o_4947, hx_4948, h⟩ := obind h
  refine VW.loopL (set_common.l0_ok a0 a1 _ _ _ _ hx_4948 .nl (.inl ⟨rfl, rfl⟩) ?_)
  · intro out_4923 tk_4924 ho_ hg_4925
    subst ho_
    try dsimp only at h
    refine blockQ_hit (thenQ_normal (VW.seq (VW.region (VO.t (t_move rfl rfl) rfl rfl (VO.t (v := .sl tk_4924 (out_4923.map Pr.c)) (t_assign rfl rfl) rfl rfl (VO.nil (thenQ_normal (VW.subK (.c 4 rfl .n) rfl (VW.ret ?_)))))))))
    have h := Option.some.inj h
    subst h
    exact ⟨.inr rfl, rfl, _, .sl .fz (out_4923.map Pr.c), hq [] [], rfl, VLe.sl _ _, hq_sub .slnil (.cons _ .slnil), rfl, rfl⟩

theorem set_outside.l0_ok (a0 : List Pr) {Q : Exit → Env → HH → Prop} :
    ∀ (out_5028 : List Pr) (lo_5031 : Int) (x_5032 : Int) (o : (List Pr × Int)), PL.set_outside.l0 a0 out_5028 lo_5031 x_5032 = some o →
    ∀ (tk_5029 : Tok) (hg_5030 : Tok.grow tk_5029 2 (out_5028.map Pr.c)) (hx0 : ∀ (out_5050 : List Pr) (lo_5053 : Int) (tk_5051 : Tok), (out_5050, lo_5053) = o → Tok.grow tk_5051 2 (out_5050.map Pr.c) → Q (.exit 0) ⟨[(3, .sl tk_5051 (out_5050.map Pr.c)), (4, .int .i64 lo_5053)], []⟩ (hq [] ([tk_5051]))), VW Try.prog 37 (codeAt [1, 1, 1, 0, 1, 0, 0] (bodyOf Try.f34)) (thenQ (VL Try.prog 37 (codeAt [1, 1, 1, 0, 1, 0, 0] (bodyOf Try.f34)) Q) Q) ⟨[(3, .sl tk_5029 (out_5028.map Pr.c)), (4, .int .i64 lo_5031), (7, .sl .fz (a0.map Pr.c)), (8, .int .i64 (a0.length : Int)), (9, .int .i64 x_5032)], []⟩ (hq [] ([tk_5029])) := by
  refine PL.set_outside.l0.partial_correctness a0 (motive := fun out_5028 lo_5031 x_5032 o => ∀ (tk_5029 : Tok) (hg_5030 : Tok.grow tk_5029 2 (out_5028.map Pr.c)) (hx0 : ∀ (out_5050 : List Pr) (lo_5053 : Int) (tk_5051 : Tok), (out_5050, lo_5053) = o → Tok.grow tk_5051 2 (out_5050.map Pr.c) → Q (.exit 0) ⟨[(3, .sl tk_5051 (out_5050.map Pr.c)), (4, .int .i64 lo_5053)], []⟩ (hq [] ([tk_5051]))), VW Try.prog 37 (codeAt [1, 1, 1, 0, 1, 0, 0] (bodyOf Try.f34)) (thenQ (VL Try.prog 37 (codeAt [1, 1, 1, 0, 1, 0, 0] (bodyOf Try.f34)) Q) Q) ⟨[(3, .sl tk_5029 (out_5028.map Pr.c)), (4, .int .i64 lo_5031), (7, .sl .fz (a0.map Pr.c)), (8, .int .i64 (a0.length : Int)), (9, .int .i64 x_5032)], []⟩ (hq [] ([tk_5029]))) ?_
  intro _ ih out_5028 lo_5031 x_5032 o h tk_5029 hg_5030 hx0
  refine VW.seq (VW.region (VO.t (v := .bool (decide (x_5032 < (a0.length : Int)))) (t_cmp rfl rfl rfl rfl rfl) rfl rfl (VO.nil (thenQ_normal (VW.seq ?_)))))
  refine VW.cond (b := (decide (x_5032 < (a0.length : Int)))) rfl (fun hc_5054 => ?_) (fun hc_5054 => ?_)
  · replace h := iteT h hc_5054
    refine VW.skip (thenQ_normal (VW.subK (.c 3 rfl (.c 4 rfl (.c 7 rfl (.c 8 rfl (.c 9 rfl .n))))) rfl (VW.seq (VW.block (VW.seq (VW.region ?_))))))
    obtain ⟨c_5055, hc_5055, h⟩ := obind h
    refine VO.t (v := .vptr [.int .i64 c_5055.x0, .int .i64 c_5055.x1]) (t_indexAddr rfl sl22 rfl rfl (getI_some hc_5055).1 (map_get (getI_some hc_5055).2 (Pr.c_eq c_5055)) rfl) rfl rfl (VO.r (v := .agg [.int .i64 c_5055.x0, .int .i64 c_5055.x1]) (r_load_v rfl sz49 rfl rfl) rfl rfl (VO.w (fun v H' => ∃ ob_5056, .ptr ob_5056 0 = v ∧ H' = hq ([[(ob_5056, .cells [.int .i64 0, .int .i64 0])]]) ([tk_5029])) (w_alloc_q rfl zt49 (fun ob => ⟨ob, rfl, rfl⟩)) rfl rfl ?_))
    rintro _ _ ⟨ob_5056, rfl, rfl⟩
    refine VO.w (fun v H' => .any = v ∧ H' = hq ([[(ob_5056, .cells [.int .i64 c_5055.x0, .int .i64 c_5055.x1])]]) ([tk_5029])) (w_store_q (i := 0) rfl sz49 rfl rfl rfl rfl rfl (Nat.le_of_ble_eq_true rfl) ⟨rfl, rfl⟩) rfl rfl ?_
    rintro _ _ ⟨rfl, rfl⟩
    refine VO.nil (thenQ_normal (VW.subK (.c 3 rfl (.c 4 rfl (.c 7 rfl (.c 8 rfl (.c 9 rfl (.c 6 rfl .n)))))) rfl (VW.seq (VW.seq (VW.region (VO.t (t_move rfl rfl) rfl rfl (VO.t (v := .ptr ob_5056 0) (t_indexAddr_parr rfl ar49 rfl (fun _ _ => rfl) (by decide) (by decide) rfl) rfl rfl (VO.r (v := .int .i64 c_5055.x0) (r_load_q (i := 0) rfl sz3 rfl rfl rfl) rfl rfl (VO.t (v := .bool (decide (lo_5031 < c_5055.x0))) (t_cmp rfl rfl rfl rfl rfl) rfl rfl ?_)))))))))
    refine VO.nil (thenQ_normal (VW.subK (.c 3 rfl (.c 4 rfl (.c 7 rfl (.c 8 rfl (.c 9 rfl (.c 6 rfl (.c 16 rfl .n))))))) rfl ?_))
    obtain ⟨o_5066, h, hx_5064⟩ := obind h
    refine VW.joinQ (E := List Pr × Tok) (I := fun ⟨out_5061, tk_5062⟩ => out_5061 = o_5066 ∧ Tok.grow tk_5062 2 (out_5061.map Pr.c) ∧ True) (env' := fun ⟨out_5061, tk_5062⟩ => ⟨[(7, .sl .fz (a0.map Pr.c)), (8, .int .i64 (a0.length : Int)), (9, .int .i64 x_5032), (6, .ptr ob_5056 0), (3, .sl tk_5062 (out_5061.map Pr.c))], []⟩) (H' := fun ⟨out_5061, tk_5062⟩ => hq ([[(ob_5056, .cells [.int .i64 c_5055.x0, .int .i64 c_5055.x1])]]) ([tk_5062])) ?_ (fun J_5065 => ?_)
    · rintro ⟨out_5061, tk_5062⟩ ⟨ho_, hg_5063, _⟩
      subst ho_
      replace h := hx_5064
      clear hx_5064
      try dsimp only at h
      show VW _ _ _ _ ⟨[(7, .sl .fz (a0.map Pr.c)), (8, .int .i64 (a0.length : Int)), (9, .int .i64 x_5032), (6, .ptr ob_5056 0), (3, .sl tk_5062 (out_5061.map Pr.c))], []⟩ (hq ([[(ob_5056, .cells [.int .i64 c_5055.x0, .int .i64 c_5055.x1])]]) ([tk_5062]))
      refine VW.region (VO.t (v := .ptr ob_5056 1) (t_indexAddr_parr rfl ar49 rfl (fun _ _ => rfl) (by decide) (by decide) rfl) rfl rfl (VO.r (v := .int .i64 c_5055.x1) (r_load_q (i := 0) rfl sz3 rfl rfl rfl) rfl rfl (VO.t (v := .int .i64 (w64 (c_5055.x1 + 1))) (t_add rfl rfl (fun _ _ => rfl) rfl) rfl rfl (VO.t (v := .int .i64 (w64 (c_5055.x1 + 1))) (t_assign rfl rfl) rfl rfl (VO.nil (blockQ_normal (thenQ_normal (VW.subK (.c 7 rfl (.c 8 rfl (.c 9 rfl (.c 3 rfl (.c 4 rfl .n))))) rfl (VW.hsub (A := hq [] ([tk_5062])) (hq_sub (.cons _ .slnil) (.cons_cons _ .slnil)) ?_)))))))))
      refine VW.region (VO.t (v := .int .i64 (w64 (x_5032 + 1))) (t_add rfl rfl (fun _ _ => rfl) rfl) rfl rfl (VO.t (t_move rfl rfl) rfl rfl (VO.nil (thenQ_normal (VL.round ?_)))))
      refine VW.subK (.c 3 rfl (.c 4 rfl (.c 7 rfl (.c 8 rfl (.c 9 rfl .n))))) rfl ?_
      exact ih _ _ _ _ h tk_5062 hg_5063 hx0
    · refine VW.cond (b := (decide (lo_5031 < c_5055.x0))) rfl (fun hc_5067 => ?_) (fun hc_5067 => ?_)
      · replace h := iteT h hc_5067
        refine VW.region (VO.t (t_move rfl rfl) rfl rfl (VO.t (t_move rfl rfl) rfl rfl (VO.t (v := .ptr ob_5056 0) (t_indexAddr_parr rfl ar49 rfl (fun _ _ => rfl) (by decide) (by decide) rfl) rfl rfl (VO.r (v := .int .i64 c_5055.x0) (r_load_q (i := 0) rfl sz3 rfl rfl rfl) rfl rfl (VO.t (v := .int .i64 (w64 (c_5055.x0 - 1))) (t_sub rfl rfl (fun _ _ => rfl) rfl) rfl rfl (VO.t (v := .agg [.int .i64 lo_5031, .int .i64 (w64 (c_5055.x0 - 1))]) (t_build_arr rfl av49 ⟨_, _, rfl, rfl, rfl, _, _, rfl, rfl, rfl, rfl⟩ rfl) rfl rfl (VO.w (fun v H' => ∃ t_5068, .sl (.cap t_5068 2) (([Pr.mk lo_5031 (w64 (c_5055.x0 - 1))]).map Pr.c) = v ∧ H' = hq ([[(ob_5056, .cells [.int .i64 c_5055.x0, .int .i64 c_5055.x1])]]) ([.cap t_5068 2, tk_5029])) (w_buildSlice (l := [[.int .i64 lo_5031, .int .i64 (w64 (c_5055.x0 - 1))]]) rfl el22 ⟨rfl, _, _, rfl, rfl, rfl, rfl, rfl⟩ rfl (Nat.le_of_ble_eq_true rfl) (fun tk => ⟨tk, by simp only [List.map_cons, List.map_nil, Pr.c_eq], rfl⟩)) rfl rfl ?_)))))))
        rintro _ _ ⟨t_5068, rfl, rfl⟩
        obtain ⟨_, hr_5069, h⟩ := obind h
        refine VO.w (fun v H' => ∃ t_5070, .sl (.cap t_5070 2) ((out_5028 ++ ([Pr.mk lo_5031 (w64 (c_5055.x0 - 1))])).map Pr.c) = v ∧ H' = hq ([[(ob_5056, .cells [.int .i64 c_5055.x0, .int .i64 c_5055.x1])]]) ([.cap t_5070 2, .cap t_5068 2])) (w_append (objs := List.flatten [[(ob_5056, .cells [.int .i64 c_5055.x0, .int .i64 c_5055.x1])]]) (tks := [.cap t_5068 2, tk_5029]) (i := 1) rfl el22 rfl rfl hg_5030 rfl (elemsOK_map Pr.c_ok _) (by have := room_some hr_5069; simpa using this) (Nat.le_of_ble_eq_true rfl) (fun t => ⟨t, by simp only [List.map_append, List.map_nil, List.nil_append], rfl⟩)) rfl rfl ?_
        rintro _ _ ⟨t_5070, rfl, rfl⟩
        refine VO.t (v := .sl (.cap t_5070 2) ((out_5028 ++ ([Pr.mk lo_5031 (w64 (c_5055.x0 - 1))])).map Pr.c)) (t_assign rfl rfl) rfl rfl (VO.subK (.c 7 rfl (.c 8 rfl (.c 9 rfl (.c 6 rfl (.c 3 rfl .n))))) rfl (VO.hsub (A := hq ([[(ob_5056, .cells [.int .i64 c_5055.x0, .int .i64 c_5055.x1])]]) ([.cap t_5070 2])) (hq_sub (.cons_cons _ .slnil) (.cons_cons _ (.cons _ .slnil))) (VO.nil ?_)))
        exact thenQ_normal (J_5065 ⟨out_5028 ++ ([Pr.mk lo_5031 (w64 (c_5055.x0 - 1))]), (.cap t_5070 2)⟩ ⟨Option.some.inj h, (.inr ⟨_, rfl⟩), trivial⟩)
      · replace h := iteF h hc_5067
        refine VW.subK (.c 7 rfl (.c 8 rfl (.c 9 rfl (.c 6 rfl (.c 3 rfl .n))))) rfl (VW.skip ?_)
        exact thenQ_normal (J_5065 ⟨out_5028, tk_5029⟩ ⟨Option.some.inj h, hg_5030, trivial⟩)
  · replace h := iteF h hc_5054
    refine VW.subK (.c 3 rfl (.c 4 rfl .n)) rfl (VW.exit (thenQ_exit (thenQ_exit ?_)))
    have h := Option.some.inj h
    subst h
    exact hx0 _ _ tk_5029 rfl hg_5030

theorem set_outside_ok (a0 : List Pr) (r : List Pr) (h : PL.set_outside a0 = some r) :
    VCalls Try.prog 34 [.sl .fz (a0.map Pr.c)] (hq [] []) (fun v H => .sl .fz (r.map Pr.c) = v ∧ H = hq [] []) := by
  unfold PL.set_outside at h
  refine VCalls.of_body 37 [2] Try.func34 rfl rfl rfl (Nat.le_of_ble_eq_true rfl) (VW.subK (.c 0 rfl .n) rfl (VW.seq (VW.region (VO.t (v := .sl .nl []) (t_assign rfl (fun _ _ => .inl ⟨rfl, .inl rfl⟩)) rfl rfl (VO.nil (thenQ_normal (VW.subK (.c 0 rfl .n) rfl (VW.seq (VW.region ?_)))))))))
  refine VO.t (v := .sl .nl []) (t_assign rfl (fun _ _ => .inl ⟨rfl, .inl rfl⟩)) rfl rfl (VO.nil (thenQ_normal (VW.seq (VW.region (VO.t (v := .int .i64 (-1000000000000000)) (t_assign rfl (fun _ _ => rfl)) rfl rfl (VO.nil (thenQ_normal (VW.seq (VW.seq ?_)))))))))
  refine VW.region (VO.t (t_move rfl rfl) rfl rfl (VO.t (v := .int .i64 (a0.length : Int)) (t_len rfl ⟨_, Try.underlying22⟩ rfl (by rw [List.length_map])) rfl rfl (VO.t (v := .int .i64 0) (t_move rfl (fun _ _ => rfl)) rfl rfl (VO.nil (thenQ_normal (VW.subK (.c 3 rfl (.c 4 rfl (.c 7 rfl (.c 8 rfl (.c 9 rfl .n))))) rfl (VW.block (VW.subK (.c 3 rfl (.c 4 rfl (.c 7 rfl (.c 8 rfl (.c 9 rfl .n))))) rfl (VW.eqv (A := hq [] ([.nl])) (.refl _) ?_)))))))))
  obtain ⟨o_5071, hx_5072, h⟩ := obind h
  refine VW.loopL (set_outside.l0_ok a0 _ _ _ _ hx_5072 .nl (.inl ⟨rfl, rfl⟩) ?_)
  · intro out_5050 lo_5053 tk_5051 ho_ hg_5052
    subst ho_
    try dsimp only at h
    refine blockQ_hit (thenQ_normal (VW.seq (VW.seq (VW.region (VO.t (t_move rfl rfl) rfl rfl (VO.t (v := .bool (decide (lo_5053 ≤ 1000000000000000))) (t_cmp rfl rfl rfl (fun _ _ => rfl) rfl) rfl rfl (VO.nil (thenQ_normal (VW.subK (.c 3 rfl (.c 4 rfl (.c 30 rfl .n))) rfl ?_)))))))))
    obtain ⟨o_5082, h, hx_5080⟩ := obind h
    refine VW.joinQ (E := List Pr × Tok) (I := fun ⟨out_5077, tk_5078⟩ => out_5077 = o_5082 ∧ Tok.grow tk_5078 2 (out_5077.map Pr.c) ∧ True) (env' := fun ⟨out_5077, tk_5078⟩ => ⟨[(3, .sl tk_5078 (out_5077.map Pr.c))], []⟩) (H' := fun ⟨out_5077, tk_5078⟩ => hq [] ([tk_5078])) ?_ (fun J_5081 => ?_)
    · rintro ⟨out_5077, tk_5078⟩ ⟨ho_, hg_5079, _⟩
      subst ho_
      replace h := hx_5080
      clear hx_5080
      try dsimp only at h
      show VW _ _ _ _ ⟨[(3, .sl tk_5078 (out_5077.map Pr.c))], []⟩ (hq [] ([tk_5078]))
      refine VW.seq (VW.region (VO.t (t_move rfl rfl) rfl rfl (VO.t (v := .sl tk_5078 (out_5077.map Pr.c)) (t_assign rfl rfl) rfl rfl (VO.nil (thenQ_normal (VW.subK (.c 2 rfl .n) rfl (VW.ret ?_)))))))
      have h := Option.some.inj h
      subst h
      exact ⟨.inr rfl, rfl, _, .sl .fz (out_5077.map Pr.c), hq [] [], rfl, VLe.sl _ _, hq_sub .slnil (.cons _ .slnil), rfl, rfl⟩
    · refine VW.cond (b := (decide (lo_5053 ≤ 1000000000000000))) rfl (fun hc_5083 => ?_) (fun hc_5083 => ?_)
      · replace h := iteT h hc_5083
        refine VW.region (VO.t (t_move rfl rfl) rfl rfl (VO.t (t_move rfl rfl) rfl rfl (VO.t (v := .agg [.int .i64 lo_5053, .int .i64 1000000000000000]) (t_build_arr rfl av49 ⟨_, _, rfl, rfl, rfl, .int .i64 1000000000000000, _, rfl, (fun _ _ => rfl), rfl, rfl⟩ rfl) rfl rfl (VO.w (fun v H' => ∃ t_5084, .sl (.cap t_5084 2) (([Pr.mk lo_5053 1000000000000000]).map Pr.c) = v ∧ H' = hq [] ([.cap t_5084 2, tk_5051])) (w_buildSlice (l := [[.int .i64 lo_5053, .int .i64 1000000000000000]]) rfl el22 ⟨rfl, _, _, rfl, rfl, rfl, rfl, rfl⟩ rfl (Nat.le_of_ble_eq_true rfl) (fun tk => ⟨tk, by simp only [List.map_cons, List.map_nil, Pr.c_eq], rfl⟩)) rfl rfl ?_))))
        rintro _ _ ⟨t_5084, rfl, rfl⟩
        obtain ⟨_, hr_5085, h⟩ := obind h
        refine VO.w (fun v H' => ∃ t_5086, .sl (.cap t_5086 2) ((out_5050 ++ ([Pr.mk lo_5053 1000000000000000])).map Pr.c) = v ∧ H' = hq [] ([.cap t_5086 2, .cap t_5084 2])) (w_append (objs := List.flatten []) (tks := [.cap t_5084 2, tk_5051]) (i := 1) rfl el22 rfl rfl hg_5052 rfl (elemsOK_map Pr.c_ok _) (by have := room_some hr_5085; simpa using this) (Nat.le_of_ble_eq_true rfl) (fun t => ⟨t, by simp only [List.map_append, List.map_nil, List.nil_append], rfl⟩)) rfl rfl ?_
        rintro _ _ ⟨t_5086, rfl, rfl⟩
        refine VO.t (v := .sl (.cap t_5086 2) ((out_5050 ++ ([Pr.mk lo_5053 1000000000000000])).map Pr.c)) (t_assign rfl rfl) rfl rfl (VO.subK (.c 3 rfl .n) rfl (VO.hsub (A := hq [] ([.cap t_5086 2])) (hq_sub .slnil (.cons_cons _ (.cons _ .slnil))) (VO.nil ?_)))
        exact thenQ_normal (J_5081 ⟨out_5050 ++ ([Pr.mk lo_5053 1000000000000000]), (.cap t_5086 2)⟩ ⟨Option.some.inj h, (.inr ⟨_, rfl⟩), trivial⟩)
      · replace h := iteF h hc_5083
        refine VW.subK (.c 3 rfl .n) rfl (VW.skip ?_)
        exact thenQ_normal (J_5081 ⟨out_5050, tk_5051⟩ ⟨Option.some.inj h, hg_5052, trivial⟩)

theorem set_value.l1_ok (kids_5141 : List (List Pr)) {Q : Exit → Env → HH → Prop} :
    ∀ (s_5192 : List Pr) (x_5193 : Int) (o : (List Pr)), PL.set_value.l1 kids_5141 s_5192 x_5193 = some o →
    ∀ (hx0 : ∀ (s_5198 : List Pr), s_5198 = o → Q (.exit 3) ⟨[(6, .sl .fz (s_5198.map Pr.c))], []⟩ (hq [] [])), VW Try.prog 71 (codeAt [1, 1, 1, 0, 1, 0, 1, 1, 1, 1, 1, 0, 1, 0, 1, 0, 0] (bodyOf Try.f40)) (thenQ (VL Try.prog 71 (codeAt [1, 1, 1, 0, 1, 0, 1, 1, 1, 1, 1, 0, 1, 0, 1, 0, 0] (bodyOf Try.f40)) Q) Q) ⟨[(6, .sl .fz (s_5192.map Pr.c)), (43, .sl .fz (((kids_5141.take (kids_5141.length : Int).toNat).drop (1 : Int).toNat).map (cSl Pr.c))), (44, .int .i64 (((kids_5141.take (kids_5141.length : Int).toNat).drop (1 : Int).toNat).length : Int)), (45, .int .i64 x_5193)], []⟩ (hq [] []) := by
  refine PL.set_value.l1.partial_correctness kids_5141 (motive := fun s_5192 x_5193 o => ∀ (hx0 : ∀ (s_5198 : List Pr), s_5198 = o → Q (.exit 3) ⟨[(6, .sl .fz (s_5198.map Pr.c))], []⟩ (hq [] [])), VW Try.prog 71 (codeAt [1, 1, 1, 0, 1, 0, 1, 1, 1, 1, 1, 0, 1, 0, 1, 0, 0] (bodyOf Try.f40)) (thenQ (VL Try.prog 71 (codeAt [1, 1, 1, 0, 1, 0, 1, 1, 1, 1, 1, 0, 1, 0, 1, 0, 0] (bodyOf Try.f40)) Q) Q) ⟨[(6, .sl .fz (s_5192.map Pr.c)), (43, .sl .fz (((kids_5141.take (kids_5141.length : Int).toNat).drop (1 : Int).toNat).map (cSl Pr.c))), (44, .int .i64 (((kids_5141.take (kids_5141.length : Int).toNat).drop (1 : Int).toNat).length : Int)), (45, .int .i64 x_5193)], []⟩ (hq [] [])) ?_
  intro _ ih s_5192 x_5193 o h hx0
  refine VW.seq (VW.region (VO.t (v := .bool (decide (x_5193 < (((kids_5141.take (kids_5141.length : Int).toNat).drop (1 : Int).toNat).length : Int)))) (t_cmp rfl rfl rfl rfl rfl) rfl rfl (VO.nil (thenQ_normal (VW.seq ?_)))))
  refine VW.cond (b := (decide (x_5193 < (((kids_5141.take (kids_5141.length : Int).toNat).drop (1 : Int).toNat).length : Int)))) rfl (fun hc_5199 => ?_) (fun hc_5199 => ?_)
  · replace h := iteT h hc_5199
    refine VW.skip (thenQ_normal (VW.subK (.c 6 rfl (.c 43 rfl (.c 44 rfl (.c 45 rfl .n)))) rfl (VW.seq (VW.block (VW.seq (VW.region ?_))))))
    obtain ⟨c_5200, hc_5200, h⟩ := obind h
    refine VO.t (v := .vptr [.sl .fz (c_5200.map Pr.c)]) (t_indexAddr rfl sl66 rfl rfl (getI_some hc_5200).1 (map_get (getI_some hc_5200).2 rfl) rfl) rfl rfl (VO.r (v := .sl .fz (c_5200.map Pr.c)) (r_load_v rfl sz22 rfl rfl) rfl rfl (VO.t (v := .sl .fz (c_5200.map Pr.c)) (t_assign rfl rfl) rfl rfl (VO.nil (thenQ_normal (VW.subK (.c 6 rfl (.c 43 rfl (.c 44 rfl (.c 45 rfl (.c 8 rfl .n))))) rfl (VW.region (VO.t (t_move rfl rfl) rfl rfl (VO.t (t_move rfl rfl) rfl rfl ?_))))))))
    obtain ⟨rv_5201, hx_5202, h⟩ := obind h
    refine VO.w (fun v H' => .sl .fz (rv_5201.map Pr.c) = v ∧ H' = hq [] []) (w_call_q (sa := []) (sg := []) (tks := []) rfl fn32 rfl ⟨_, _, rfl, rfl, _, _, rfl, rfl, rfl⟩ (set_common_ok _ _ _ hx_5202) (by rintro v H' ⟨rfl, rfl⟩; exact ⟨[], rfl, rfl, rfl⟩)) rfl rfl ?_
    rintro _ _ ⟨rfl, rfl⟩
    refine VO.t (v := .sl .fz (rv_5201.map Pr.c)) (t_assign rfl rfl) rfl rfl (VO.nil (blockQ_normal (thenQ_normal (VW.subK (.c 43 rfl (.c 44 rfl (.c 45 rfl (.c 6 rfl .n)))) rfl (VW.region (VO.t (v := .int .i64 (w64 (x_5193 + 1))) (t_add rfl rfl (fun _ _ => rfl) rfl) rfl rfl (VO.t (t_move rfl rfl) rfl rfl (VO.nil (thenQ_normal (VL.round ?_))))))))))
    refine VW.subK (.c 6 rfl (.c 43 rfl (.c 44 rfl (.c 45 rfl .n)))) rfl ?_
    exact ih _ _ _ h hx0
  · replace h := iteF h hc_5199
    refine VW.subK (.c 6 rfl .n) rfl (VW.exit (thenQ_exit (thenQ_exit ?_)))
    have h := Option.some.inj h
    subst h
    exact hx0 _ rfl

theorem set_value_ok (a0 : Node) (r : List Pr) (h : PL.set_value a0 = some r) :
    VCalls Try.prog 40 [.agg [.int .i64 a0.Op, .int .i64 a0.Lo, .int .i64 a0.Hi, .sl .fz (a0.Kids.map Node.c)]] (hq [] []) (fun v H => .sl .fz (r.map Pr.c) = v ∧ H = hq [] []) := by
  revert h
  refine (PL.set_value.l0.mutual_partial_correctness (motive_1 := fun a0 kids_5129 x_5132 o => ∀ (Q : Exit → Env → HH → Prop) (ob_5087 : Nat) (tk_5130 : Tok) (hg_5131 : Tok.grow tk_5130 1 (kids_5129.map (cSl Pr.c))) (hx0 : ∀ (kids_5141 : List (List Pr)) (tk_5142 : Tok), kids_5141 = o → Tok.grow tk_5142 1 (kids_5141.map (cSl Pr.c)) → Q (.exit 0) ⟨[(1, .ptr ob_5087 0), (3, .sl tk_5142 (kids_5141.map (cSl Pr.c)))], []⟩ (hq ([[(ob_5087, .cells [.int .i64 a0.Op, .int .i64 a0.Lo, .int .i64 a0.Hi, .sl .fz (a0.Kids.map Node.c)])]]) ([tk_5142]))), VW Try.prog 71 (codeAt [1, 1, 0, 1, 0, 0] (bodyOf Try.f40)) (thenQ (VL Try.prog 71 (codeAt [1, 1, 0, 1, 0, 0] (bodyOf Try.f40)) Q) Q) ⟨[(1, .ptr ob_5087 0), (3, .sl tk_5130 (kids_5129.map (cSl Pr.c))), (10, .sl .fz (a0.Kids.map Node.c)), (11, .int .i64 (a0.Kids.length : Int)), (12, .int .i64 x_5132)], []⟩ (hq ([[(ob_5087, .cells [.int .i64 a0.Op, .int .i64 a0.Lo, .int .i64 a0.Hi, .sl .fz (a0.Kids.map Node.c)])]]) ([tk_5130]))) (motive_2 := fun a0 r => VCalls Try.prog 40 [.agg [.int .i64 a0.Op, .int .i64 a0.Lo, .int .i64 a0.Hi, .sl .fz (a0.Kids.map Node.c)]] (hq [] []) (fun v H => .sl .fz (r.map Pr.c) = v ∧ H = hq [] [])) ?_ ?_).2 a0 r
  · intro _ _ ih_set_value_l0 ih_set_value a0 kids_5129 x_5132 o h Q ob_5087 tk_5130 hg_5131 hx0
    refine VW.seq (VW.region (VO.t (v := .bool (decide (x_5132 < (a0.Kids.length : Int)))) (t_cmp rfl rfl rfl rfl rfl) rfl rfl (VO.nil (thenQ_normal (VW.seq ?_)))))
    refine VW.cond (b := (decide (x_5132 < (a0.Kids.length : Int)))) rfl (fun hc_5144 => ?_) (fun hc_5144 => ?_)
    · replace h := iteT h hc_5144
      refine VW.skip (thenQ_normal (VW.subK (.c 1 rfl (.c 3 rfl (.c 10 rfl (.c 11 rfl (.c 12 rfl .n))))) rfl (VW.seq (VW.block (VW.seq (VW.region ?_))))))
      obtain ⟨c_5145, hc_5145, h⟩ := obind h
      refine VO.t (v := .vptr [.int .i64 c_5145.Op, .int .i64 c_5145.Lo, .int .i64 c_5145.Hi, .sl .fz (c_5145.Kids.map Node.c)]) (t_indexAddr rfl sl40 rfl rfl (getI_some hc_5145).1 (map_get (getI_some hc_5145).2 (Node.c_eq c_5145)) rfl) rfl rfl (VO.r (v := .agg [.int .i64 c_5145.Op, .int .i64 c_5145.Lo, .int .i64 c_5145.Hi, .sl .fz (c_5145.Kids.map Node.c)]) (r_load_v rfl sz42 rfl rfl) rfl rfl (VO.w (fun v H' => ∃ ob_5146, .ptr ob_5146 0 = v ∧ H' = hq ([[(ob_5146, .cells [.int .i64 0, .int .i64 0, .int .i64 0, .sl .nl []])], [(ob_5087, .cells [.int .i64 a0.Op, .int .i64 a0.Lo, .int .i64 a0.Hi, .sl .fz (a0.Kids.map Node.c)])]]) ([tk_5130])) (w_alloc_q rfl zt42 (fun ob => ⟨ob, rfl, rfl⟩)) rfl rfl ?_))
      rintro _ _ ⟨ob_5146, rfl, rfl⟩
      refine VO.w (fun v H' => .any = v ∧ H' = hq ([[(ob_5146, .cells [.int .i64 c_5145.Op, .int .i64 c_5145.Lo, .int .i64 c_5145.Hi, .sl .fz (c_5145.Kids.map Node.c)])], [(ob_5087, .cells [.int .i64 a0.Op, .int .i64 a0.Lo, .int .i64 a0.Hi, .sl .fz (a0.Kids.map Node.c)])]]) ([tk_5130])) (w_store_q (i := 0) rfl sz42 rfl rfl rfl rfl rfl (Nat.le_of_ble_eq_true rfl) ⟨rfl, rfl⟩) rfl rfl ?_
      rintro _ _ ⟨rfl, rfl⟩
      refine VO.nil (thenQ_normal (VW.subK (.c 1 rfl (.c 3 rfl (.c 10 rfl (.c 11 rfl (.c 12 rfl (.c 5 rfl .n)))))) rfl (VW.region (VO.t (t_move rfl rfl) rfl rfl (VO.r (v := .agg [.int .i64 c_5145.Op, .int .i64 c_5145.Lo, .int .i64 c_5145.Hi, .sl .fz (c_5145.Kids.map Node.c)]) (r_load_q (i := 0) rfl sz42 rfl rfl rfl) rfl rfl ?_)))))
      obtain ⟨rv_5147, hx_5148, h⟩ := obind h
      refine VO.w (fun v H' => .sl .fz (rv_5147.map Pr.c) = v ∧ H' = hq ([[(ob_5146, .cells [.int .i64 c_5145.Op, .int .i64 c_5145.Lo, .int .i64 c_5145.Hi, .sl .fz (c_5145.Kids.map Node.c)])], [(ob_5087, .cells [.int .i64 a0.Op, .int .i64 a0.Lo, .int .i64 a0.Hi, .sl .fz (a0.Kids.map Node.c)])]]) ([tk_5130])) (w_call_q (sa := []) (sg := [[(ob_5146, .cells [.int .i64 c_5145.Op, .int .i64 c_5145.Lo, .int .i64 c_5145.Hi, .sl .fz (c_5145.Kids.map Node.c)])], [(ob_5087, .cells [.int .i64 a0.Op, .int .i64 a0.Lo, .int .i64 a0.Hi, .sl .fz (a0.Kids.map Node.c)])]]) (tks := [tk_5130]) rfl fn40 rfl ⟨_, _, rfl, rfl, rfl⟩ (ih_set_value _ _ hx_5148) (by rintro v H' ⟨rfl, rfl⟩; exact ⟨[], rfl, rfl, rfl⟩)) rfl rfl ?_
      rintro _ _ ⟨rfl, rfl⟩
      refine VO.w (fun v H' => ∃ t_5149, .sl (.cap t_5149 1) (([rv_5147]).map (cSl Pr.c)) = v ∧ H' = hq ([[(ob_5146, .cells [.int .i64 c_5145.Op, .int .i64 c_5145.Lo, .int .i64 c_5145.Hi, .sl .fz (c_5145.Kids.map Node.c)])], [(ob_5087, .cells [.int .i64 a0.Op, .int .i64 a0.Lo, .int .i64 a0.Hi, .sl .fz (a0.Kids.map Node.c)])]]) ([.cap t_5149 1, tk_5130])) (w_buildSlice (l := [[.sl .fz (rv_5147.map Pr.c)]]) rfl el66 ⟨rfl, _, _, rfl, rfl, rfl, rfl, rfl⟩ rfl (Nat.le_of_ble_eq_true rfl) (fun tk => ⟨tk, by simp only [List.map_cons, List.map_nil, cInt, cBool, cStr, cSl], rfl⟩)) rfl rfl ?_
      rintro _ _ ⟨t_5149, rfl, rfl⟩
      obtain ⟨_, hr_5150, h⟩ := obind h
      refine VO.w (fun v H' => ∃ t_5151, .sl (.cap t_5151 1) ((kids_5129 ++ ([rv_5147])).map (cSl Pr.c)) = v ∧ H' = hq ([[(ob_5146, .cells [.int .i64 c_5145.Op, .int .i64 c_5145.Lo, .int .i64 c_5145.Hi, .sl .fz (c_5145.Kids.map Node.c)])], [(ob_5087, .cells [.int .i64 a0.Op, .int .i64 a0.Lo, .int .i64 a0.Hi, .sl .fz (a0.Kids.map Node.c)])]]) ([.cap t_5151 1, .cap t_5149 1])) (w_append (objs := List.flatten [[(ob_5146, .cells [.int .i64 c_5145.Op, .int .i64 c_5145.Lo, .int .i64 c_5145.Hi, .sl .fz (c_5145.Kids.map Node.c)])], [(ob_5087, .cells [.int .i64 a0.Op, .int .i64 a0.Lo, .int .i64 a0.Hi, .sl .fz (a0.Kids.map Node.c)])]]) (tks := [.cap t_5149 1, tk_5130]) (i := 1) rfl el66 rfl rfl hg_5131 rfl (elemsOK_map (cSl_ok Pr.c) _) (by have := room_some hr_5150; simpa using this) (Nat.le_of_ble_eq_true rfl) (fun t => ⟨t, by simp only [List.map_append, List.map_nil, List.nil_append], rfl⟩)) rfl rfl ?_
      rintro _ _ ⟨t_5151, rfl, rfl⟩
      refine VO.t (v := .sl (.cap t_5151 1) ((kids_5129 ++ ([rv_5147])).map (cSl Pr.c))) (t_assign rfl rfl) rfl rfl (VO.nil (blockQ_normal (thenQ_normal (VW.subK (.c 1 rfl (.c 10 rfl (.c 11 rfl (.c 12 rfl (.c 3 rfl .n))))) rfl (VW.hsub (A := hq ([[(ob_5087, .cells [.int .i64 a0.Op, .int .i64 a0.Lo, .int .i64 a0.Hi, .sl .fz (a0.Kids.map Node.c)])]]) ([.cap t_5151 1])) (hq_sub (.cons _ (.cons_cons _ .slnil)) (.cons_cons _ (.cons _ .slnil))) (VW.region (VO.t (v := .int .i64 (w64 (x_5132 + 1))) (t_add rfl rfl (fun _ _ => rfl) rfl) rfl rfl (VO.t (t_move rfl rfl) rfl rfl (VO.nil ?_)))))))))
      refine thenQ_normal (VL.round ?_)
      refine VW.subK (.c 1 rfl (.c 3 rfl (.c 10 rfl (.c 11 rfl (.c 12 rfl .n))))) rfl ?_
      exact ih_set_value_l0 _ _ _ _ h _ ob_5087 (.cap t_5151 1) (.inr ⟨_, rfl⟩) hx0
    · replace h := iteF h hc_5144
      refine VW.subK (.c 1 rfl (.c 3 rfl .n)) rfl (VW.exit (thenQ_exit (thenQ_exit ?_)))
      have h := Option.some.inj h
      subst h
      exact hx0 _ tk_5130 rfl hg_5131
  · intro _ ih_set_value_l0 a0 r h 
    refine VCalls.of_body 71 [2] Try.func40 rfl rfl rfl (Nat.le_of_ble_eq_true rfl) (VW.subK (.c 0 rfl .n) rfl (VW.seq (VW.region (VO.w (fun v H' => ∃ ob_5087, .ptr ob_5087 0 = v ∧ H' = hq ([[(ob_5087, .cells [.int .i64 a0.Op, .int .i64 a0.Lo, .int .i64 a0.Hi, .sl .fz (a0.Kids.map Node.c)])]]) []) (w_box_q rfl rfl rfl (fun ob => ⟨ob, rfl, rfl⟩)) rfl rfl ?_))))
    rintro _ _ ⟨ob_5087, rfl, rfl⟩
    refine VO.t (v := .sl .nl []) (t_assign rfl (fun _ _ => .inl ⟨rfl, .inl rfl⟩)) rfl rfl (VO.nil (thenQ_normal (VW.subK (.c 1 rfl .n) rfl (VW.seq (VW.region (VO.t (v := .sl .nl []) (t_assign rfl (fun _ _ => .inl ⟨rfl, .inl rfl⟩)) rfl rfl (VO.nil (thenQ_normal (VW.seq ?_)))))))))
    refine VW.seq (VW.region (VO.t (v := .ptr ob_5087 3) (t_fieldAddr_ptr rfl fi42_3 rfl rfl) rfl rfl (VO.r (v := .sl .fz (a0.Kids.map Node.c)) (r_load_q (i := 0) rfl sz40 rfl rfl rfl) rfl rfl (VO.t (v := .int .i64 (a0.Kids.length : Int)) (t_len rfl ⟨_, Try.underlying40⟩ rfl (by rw [List.length_map])) rfl rfl (VO.t (v := .int .i64 0) (t_move rfl (fun _ _ => rfl)) rfl rfl (VO.nil (thenQ_normal (VW.subK (.c 1 rfl (.c 3 rfl (.c 10 rfl (.c 11 rfl (.c 12 rfl .n))))) rfl (VW.block ?_)))))))))
    refine VW.subK (.c 1 rfl (.c 3 rfl (.c 10 rfl (.c 11 rfl (.c 12 rfl .n))))) rfl (VW.eqv (A := hq ([[(ob_5087, .cells [.int .i64 a0.Op, .int .i64 a0.Lo, .int .i64 a0.Hi, .sl .fz (a0.Kids.map Node.c)])]]) ([.nl])) (.refl _) ?_)
    obtain ⟨o_5152, hx_5153, h⟩ := obind h
    refine VW.loopL (ih_set_value_l0 _ _ _ _ hx_5153 _ ob_5087 .nl (.inl ⟨rfl, rfl⟩) ?_)
    · intro kids_5141 tk_5142 ho_ hg_5143
      subst ho_
      try dsimp only at h
      refine blockQ_hit (thenQ_normal (VW.seq (VW.seq (VW.region (VO.t (v := .ptr ob_5087 0) (t_fieldAddr_ptr rfl fi42_0 rfl rfl) rfl rfl (VO.r (v := .int .i64 a0.Op) (r_load_q (i := 0) rfl sz3 rfl rfl rfl) rfl rfl (VO.nil (thenQ_normal (VW.subK (.c 1 rfl (.c 3 rfl (.c 23 rfl .n))) rfl ?_)))))))))
      refine VW.block (VW.seq (VW.region (VO.t (v := .bool (a0.Op == 0)) (t_cmp rfl rfl rfl (fun _ _ => rfl) rfl) rfl rfl (VO.t (v := .bool (a0.Op == 0)) (t_assign rfl rfl) rfl rfl (VO.nil (thenQ_normal (VW.subK (.c 1 rfl (.c 3 rfl (.c 23 rfl (.c 24 rfl .n)))) rfl ?_)))))))
      refine VW.cond (b := (a0.Op == 0)) rfl (fun hc_5154 => ?_) (fun hc_5154 => ?_)
      · replace h := iteT h hc_5154
        refine VW.seq (VW.region (VO.t (v := .ptr ob_5087 1) (t_fieldAddr_ptr rfl fi42_1 rfl rfl) rfl rfl (VO.r (v := .int .i64 a0.Lo) (r_load_q (i := 0) rfl sz3 rfl rfl rfl) rfl rfl (VO.t (v := .ptr ob_5087 2) (t_fieldAddr_ptr rfl fi42_2 rfl rfl) rfl rfl (VO.r (v := .int .i64 a0.Hi) (r_load_q (i := 0) rfl sz3 rfl rfl rfl) rfl rfl (VO.t (v := .agg [.int .i64 a0.Lo, .int .i64 a0.Hi]) (t_build_arr rfl av49 ⟨_, _, rfl, rfl, rfl, _, _, rfl, rfl, rfl, rfl⟩ rfl) rfl rfl (VO.w (fun v H' => ∃ t_5155, .sl (.cap t_5155 2) (([Pr.mk a0.Lo a0.Hi]).map Pr.c) = v ∧ H' = hq ([[(ob_5087, .cells [.int .i64 a0.Op, .int .i64 a0.Lo, .int .i64 a0.Hi, .sl .fz (a0.Kids.map Node.c)])]]) ([.cap t_5155 2, tk_5142])) (w_buildSlice (l := [[.int .i64 a0.Lo, .int .i64 a0.Hi]]) rfl el22 ⟨rfl, _, _, rfl, rfl, rfl, rfl, rfl⟩ rfl (Nat.le_of_ble_eq_true rfl) (fun tk => ⟨tk, by simp only [List.map_cons, List.map_nil, Pr.c_eq], rfl⟩)) rfl rfl ?_)))))))
        rintro _ _ ⟨t_5155, rfl, rfl⟩
        refine VO.t (v := .sl (.cap t_5155 2) (([Pr.mk a0.Lo a0.Hi]).map Pr.c)) (t_assign rfl rfl) rfl rfl (VO.nil (thenQ_normal (VW.subK (.c 2 rfl .n) rfl (VW.hsub (A := hq [] ([.cap t_5155 2])) (hq_sub (.cons _ .slnil) (.cons_cons _ (.cons _ .slnil))) (VW.ret (blockQ_ret (thenQ_ret ?_)))))))
        have h := Option.some.inj h
        subst h
        exact ⟨.inr rfl, rfl, _, .sl .fz (([Pr.mk a0.Lo a0.Hi]).map Pr.c), hq [] [], rfl, VLe.sl _ _, hq_sub .slnil (.cons _ .slnil), rfl, rfl⟩
      · replace h := iteF h hc_5154
        refine VW.seq (VW.region (VO.t (v := .bool (a0.Op == 1)) (t_cmp rfl rfl rfl (fun _ _ => rfl) rfl) rfl rfl (VO.t (v := .bool (a0.Op == 1)) (t_assign rfl rfl) rfl rfl (VO.nil (thenQ_normal (VW.subK (.c 3 rfl (.c 23 rfl (.c 32 rfl .n))) rfl (VW.hsub (A := hq [] ([tk_5142])) (hq_sub (.cons _ .slnil) (.cons_cons _ .slnil)) ?_)))))))
        refine VW.cond (b := (a0.Op == 1)) rfl (fun hc_5156 => ?_) (fun hc_5156 => ?_)
        · replace h := iteT h hc_5156
          refine VW.seq (VW.region (VO.t (t_move rfl rfl) rfl rfl (VO.weak (d := 34) (v' := .sl .fz (kids_5141.map (cSl Pr.c))) rfl (VLe.sl _ _) ?_)))
          obtain ⟨rv_5157, hx_5158, h⟩ := obind h
          refine VO.w (fun v H' => ∃ vr0_5159 br0_5160, Buf 2 (rv_5157.map Pr.c) vr0_5159 br0_5160 ∧ vr0_5159 = v ∧ H' = hq ([br0_5160]) ([tk_5142])) (w_call_q (sa := []) (sg := []) (tks := [tk_5142]) rfl fn30 rfl ⟨_, _, rfl, rfl, rfl⟩ (slices_Concat_2int2int_ok _ _ hx_5158) (by rintro v H' ⟨vr0_5159, br0_5160, h_0, rfl, rfl⟩; exact ⟨[br0_5160], rfl, vr0_5159, br0_5160, h_0, rfl, rfl⟩)) rfl rfl ?_
          rintro _ _ ⟨vr0_5159, br0_5160, hB_5162, rfl, rfl⟩
          obtain ⟨⟨rv_5163, k_5164⟩, hx_5165, h⟩ := obind h
          try dsimp only at h
          refine VO.w (fun v H' => ∃ bk0_5166, Buf 2 (k_5164.map Pr.c) vr0_5159 bk0_5166 ∧ .sl .fz (rv_5163.map Pr.c) = v ∧ H' = hq ([bk0_5166]) ([tk_5142])) (w_call_q (sa := [br0_5160]) (sg := []) (tks := [tk_5142]) rfl fn29 rfl ⟨_, _, rfl, rfl, rfl⟩ (set_tidy_ok _ _ hx_5165 vr0_5159 br0_5160 hB_5162) (by rintro v H' ⟨bk0_5166, h_0, rfl, rfl⟩; exact ⟨[bk0_5166], rfl, bk0_5166, h_0, rfl, rfl⟩)) rfl rfl ?_
          rintro _ _ ⟨bk0_5166, hB_5167, rfl, rfl⟩
          refine VO.t (v := .sl .fz (rv_5163.map Pr.c)) (t_assign rfl rfl) rfl rfl (VO.nil (thenQ_normal (VW.subK (.c 2 rfl .n) rfl (VW.hsub (A := hq [] []) (hq_sub (.cons _ .slnil) (.cons _ .slnil)) (VW.ret (blockQ_ret (thenQ_ret ?_)))))))
          have h := Option.some.inj h
          subst h
          exact ⟨.inr rfl, rfl, _, .sl .fz (rv_5163.map Pr.c), hq [] [], rfl, VLe.refl _, hq_sub .slnil .slnil, rfl, rfl⟩
        · replace h := iteF h hc_5156
          refine VW.seq (VW.region (VO.t (v := .bool (a0.Op == 2)) (t_cmp rfl rfl rfl (fun _ _ => rfl) rfl) rfl rfl (VO.t (v := .bool (a0.Op == 2)) (t_assign rfl rfl) rfl rfl (VO.nil (thenQ_normal (VW.subK (.c 3 rfl (.c 23 rfl (.c 37 rfl .n))) rfl ?_))))))
          refine VW.cond (b := (a0.Op == 2)) rfl (fun hc_5168 => ?_) (fun hc_5168 => ?_)
          · replace h := iteT h hc_5168
            refine VW.seq (VW.region (VO.t (t_move rfl rfl) rfl rfl ?_))
            obtain ⟨c_5169, hc_5169, h⟩ := obind h
            refine VO.t (v := .vptr [.sl .fz (c_5169.map Pr.c)]) (t_indexAddr rfl sl66 rfl (fun _ _ => rfl) (getI_some hc_5169).1 (map_get (getI_some hc_5169).2 rfl) rfl) rfl rfl (VO.r (v := .sl .fz (c_5169.map Pr.c)) (r_load_v rfl sz22 rfl rfl) rfl rfl (VO.t (v := .sl .fz (c_5169.map Pr.c)) (t_assign rfl rfl) rfl rfl (VO.nil (thenQ_normal (VW.subK (.c 3 rfl (.c 6 rfl .n)) rfl (VW.seq (VW.seq (VW.region (VO.t (t_move rfl rfl) rfl rfl ?_)))))))))
            obtain ⟨ha_5170, h⟩ := ite_some h
            refine VO.t (v := .sl .fz (((kids_5141.take (kids_5141.length : Int).toNat).drop (1 : Int).toNat).map (cSl Pr.c))) (t_slice (i := 1) (j := (kids_5141.length : Int)) rfl sl66 rfl ⟨_, (fun _ _ => rfl)⟩ (by simp [EvB]) (by decide) ha_5170 (by simpa using (Int.le_refl (kids_5141.length : Int))) (elemsLen_map (cSl_ok Pr.c) _) (by rw [List.map_drop, List.map_take])) rfl rfl (VO.t (v := .int .i64 (((kids_5141.take (kids_5141.length : Int).toNat).drop (1 : Int).toNat).length : Int)) (t_len rfl ⟨_, Try.underlying66⟩ rfl (by rw [List.length_map])) rfl rfl (VO.t (v := .int .i64 0) (t_move rfl (fun _ _ => rfl)) rfl rfl (VO.nil (thenQ_normal (VW.subK (.c 6 rfl (.c 43 rfl (.c 44 rfl (.c 45 rfl .n)))) rfl (VW.hsub (A := hq [] []) (hq_sub .slnil (.cons _ .slnil)) (VW.block (VW.subK (.c 6 rfl (.c 43 rfl (.c 44 rfl (.c 45 rfl .n)))) rfl ?_))))))))
            obtain ⟨o_5203, hx_5204, h⟩ := obind h
            refine VW.loopL (set_value.l1_ok kids_5141 _ _ _ hx_5204 ?_)
            · intro s_5198 ho_
              subst ho_
              try dsimp only at h
              refine blockQ_hit (thenQ_normal (VW.seq (VW.region (VO.t (t_move rfl rfl) rfl rfl (VO.t (v := .sl .fz (s_5198.map Pr.c)) (t_assign rfl rfl) rfl rfl (VO.nil (thenQ_normal (VW.subK (.c 2 rfl .n) rfl (VW.ret ?_)))))))))
              refine blockQ_ret (thenQ_ret ?_)
              have h := Option.some.inj h
              subst h
              exact ⟨.inr rfl, rfl, _, .sl .fz (s_5198.map Pr.c), hq [] [], rfl, VLe.refl _, hq_sub .slnil .slnil, rfl, rfl⟩
          · replace h := iteF h hc_5168
            refine VW.seq (VW.region (VO.t (v := .bool (a0.Op == 3)) (t_cmp rfl rfl rfl (fun _ _ => rfl) rfl) rfl rfl (VO.t (v := .bool (a0.Op == 3)) (t_assign rfl rfl) rfl rfl (VO.nil (thenQ_normal (VW.subK (.c 3 rfl (.c 23 rfl (.c 54 rfl .n))) rfl ?_))))))
            refine VW.cond (b := (a0.Op == 3)) rfl (fun hc_5205 => ?_) (fun hc_5205 => ?_)
            · replace h := iteT h hc_5205
              refine VW.seq (VW.draw 9 mix rfl (VA.t (i := 0) rfl (t_move rfl rfl) (.inl rfl) (by kernel_rfl) ?_))
              obtain ⟨c_5206, hc_5206, h⟩ := obind h
              refine VA.t (i := 1) (v := .vptr [.sl .fz (c_5206.map Pr.c)]) rfl (t_indexAddr rfl sl66 rfl (fun _ _ => rfl) (getI_some hc_5206).1 (map_get (getI_some hc_5206).2 rfl) rfl) (.inl rfl) (by kernel_rfl) (VA.t (i := 3) rfl (t_move rfl rfl) (.inl rfl) (by kernel_rfl) ?_)
              obtain ⟨c_5207, hc_5207, h⟩ := obind h
              refine VA.t (i := 4) (v := .vptr [.sl .fz (c_5207.map Pr.c)]) rfl (t_indexAddr rfl sl66 rfl (fun _ _ => rfl) (getI_some hc_5207).1 (map_get (getI_some hc_5207).2 rfl) rfl) (.inl rfl) (by kernel_rfl) ?_
              refine VA.alt [2, 5] (by kernel_rfl) rfl ⟨?_, ?_, trivial⟩
              · refine VA1.r (i := 2) (v := .sl .fz (c_5206.map Pr.c)) rfl (r_load_v rfl sz22 rfl rfl) (.inl rfl) rfl (VA.phase (g := 3) [5] 1 (VP.take (i := 5) (v := .sl .fz (c_5207.map Pr.c)) rfl (r_load_v rfl sz22 rfl rfl) (.inl rfl) (by kernel_rfl) (VP.done (by kernel_rfl) ?_)))
                obtain ⟨rv_5208, hx_5209, h⟩ := obind h
                refine VA.w (i := 6) (fun v H' => .sl .fz (rv_5208.map Pr.c) = v ∧ H' = hq [] ([tk_5142])) rfl (w_call_q (sa := []) (sg := []) (tks := [tk_5142]) rfl fn34 rfl ⟨_, _, rfl, rfl, rfl⟩ (set_outside_ok _ _ hx_5209) (by rintro v H' ⟨rfl, rfl⟩; exact ⟨[], rfl, rfl, rfl⟩)) (.inl rfl) (by kernel_rfl) rfl ?_
                rintro _ _ ⟨rfl, rfl⟩
                obtain ⟨rv_5210, hx_5211, h⟩ := obind h
                refine VA.w (i := 7) (fun v H' => .sl .fz (rv_5210.map Pr.c) = v ∧ H' = hq [] ([tk_5142])) rfl (w_call_q (sa := []) (sg := []) (tks := [tk_5142]) rfl fn32 rfl ⟨_, _, rfl, rfl, _, _, rfl, rfl, rfl⟩ (set_common_ok _ _ _ hx_5211) (by rintro v H' ⟨rfl, rfl⟩; exact ⟨[], rfl, rfl, rfl⟩)) (.inl rfl) (by kernel_rfl) rfl ?_
                rintro _ _ ⟨rfl, rfl⟩
                refine VA.t (i := 8) (v := .sl .fz (rv_5210.map Pr.c)) rfl (t_assign rfl rfl) (.inl rfl) (by kernel_rfl) (VA.done (by kernel_rfl) (thenQ_normal (VW.subK (.c 2 rfl .n) rfl (VW.hsub (A := hq [] []) (hq_sub .slnil (.cons _ .slnil)) (VW.ret (blockQ_ret (thenQ_ret ?_)))))))
                have h := Option.some.inj h
                subst h
                exact ⟨.inr rfl, rfl, _, .sl .fz (rv_5210.map Pr.c), hq [] [], rfl, VLe.refl _, hq_sub .slnil .slnil, rfl, rfl⟩
              · refine VA1.r (i := 5) (v := .sl .fz (c_5207.map Pr.c)) rfl (r_load_v rfl sz22 rfl rfl) (.inl rfl) rfl ?_
                refine VA.alt [2, 6] (by kernel_rfl) rfl ⟨?_, ?_, trivial⟩
                · refine VA1.r (i := 2) (v := .sl .fz (c_5206.map Pr.c)) rfl (r_load_v rfl sz22 rfl rfl) (.inl rfl) rfl ?_
                  obtain ⟨rv_5212, hx_5213, h⟩ := obind h
                  refine VA.w (i := 6) (fun v H' => .sl .fz (rv_5212.map Pr.c) = v ∧ H' = hq [] ([tk_5142])) rfl (w_call_q (sa := []) (sg := []) (tks := [tk_5142]) rfl fn34 rfl ⟨_, _, rfl, rfl, rfl⟩ (set_outside_ok _ _ hx_5213) (by rintro v H' ⟨rfl, rfl⟩; exact ⟨[], rfl, rfl, rfl⟩)) (.inl rfl) (by kernel_rfl) rfl ?_
                  rintro _ _ ⟨rfl, rfl⟩
                  obtain ⟨rv_5214, hx_5215, h⟩ := obind h
                  refine VA.w (i := 7) (fun v H' => .sl .fz (rv_5214.map Pr.c) = v ∧ H' = hq [] ([tk_5142])) rfl (w_call_q (sa := []) (sg := []) (tks := [tk_5142]) rfl fn32 rfl ⟨_, _, rfl, rfl, _, _, rfl, rfl, rfl⟩ (set_common_ok _ _ _ hx_5215) (by rintro v H' ⟨rfl, rfl⟩; exact ⟨[], rfl, rfl, rfl⟩)) (.inl rfl) (by kernel_rfl) rfl ?_
                  rintro _ _ ⟨rfl, rfl⟩
                  refine VA.t (i := 8) (v := .sl .fz (rv_5214.map Pr.c)) rfl (t_assign rfl rfl) (.inl rfl) (by kernel_rfl) (VA.done (by kernel_rfl) (thenQ_normal (VW.subK (.c 2 rfl .n) rfl (VW.hsub (A := hq [] []) (hq_sub .slnil (.cons _ .slnil)) (VW.ret (blockQ_ret (thenQ_ret ?_)))))))
                  have h := Option.some.inj h
                  subst h
                  exact ⟨.inr rfl, rfl, _, .sl .fz (rv_5214.map Pr.c), hq [] [], rfl, VLe.refl _, hq_sub .slnil .slnil, rfl, rfl⟩
                · obtain ⟨rv_5216, hx_5217, h⟩ := obind h
                  refine VA1.w (i := 6) (fun v H' => .sl .fz (rv_5216.map Pr.c) = v ∧ H' = hq [] ([tk_5142])) rfl (w_call_q (sa := []) (sg := []) (tks := [tk_5142]) rfl fn34 rfl ⟨_, _, rfl, rfl, rfl⟩ (set_outside_ok _ _ hx_5217) (by rintro v H' ⟨rfl, rfl⟩; exact ⟨[], rfl, rfl, rfl⟩)) (.inl rfl) rfl ?_
                  rintro _ _ ⟨rfl, rfl⟩
                  refine VA.phase (g := 2) [2] 1 (VP.take (i := 2) (v := .sl .fz (c_5206.map Pr.c)) rfl (r_load_v rfl sz22 rfl rfl) (.inl rfl) (by kernel_rfl) (VP.done (by kernel_rfl) ?_))
                  obtain ⟨rv_5218, hx_5219, h⟩ := obind h
                  refine VA.w (i := 7) (fun v H' => .sl .fz (rv_5218.map Pr.c) = v ∧ H' = hq [] ([tk_5142])) rfl (w_call_q (sa := []) (sg := []) (tks := [tk_5142]) rfl fn32 rfl ⟨_, _, rfl, rfl, _, _, rfl, rfl, rfl⟩ (set_common_ok _ _ _ hx_5219) (by rintro v H' ⟨rfl, rfl⟩; exact ⟨[], rfl, rfl, rfl⟩)) (.inl rfl) (by kernel_rfl) rfl ?_
                  rintro _ _ ⟨rfl, rfl⟩
                  refine VA.t (i := 8) (v := .sl .fz (rv_5218.map Pr.c)) rfl (t_assign rfl rfl) (.inl rfl) (by kernel_rfl) (VA.done (by kernel_rfl) (thenQ_normal (VW.subK (.c 2 rfl .n) rfl (VW.hsub (A := hq [] []) (hq_sub .slnil (.cons _ .slnil)) (VW.ret (blockQ_ret (thenQ_ret ?_)))))))
                  have h := Option.some.inj h
                  subst h
                  exact ⟨.inr rfl, rfl, _, .sl .fz (rv_5218.map Pr.c), hq [] [], rfl, VLe.refl _, hq_sub .slnil .slnil, rfl, rfl⟩
            · replace h := iteF h hc_5205
              refine VW.seq (VW.region (VO.t (v := .bool (a0.Op == 4)) (t_cmp rfl rfl rfl (fun _ _ => rfl) rfl) rfl rfl (VO.t (v := .bool (a0.Op == 4)) (t_assign rfl rfl) rfl rfl (VO.nil (thenQ_normal (VW.subK (.c 3 rfl (.c 64 rfl .n)) rfl ?_))))))
              refine VW.cond (b := (a0.Op == 4)) rfl (fun hc_5220 => ?_) (fun hc_5220 => ?_)
              · replace h := iteT h hc_5220
                refine VW.seq (VW.region (VO.t (v := .agg [.int .i64 (-1000000000000000), .int .i64 1000000000000000]) (t_build_arr rfl av49 ⟨.int .i64 (-1000000000000000), _, rfl, (fun _ _ => rfl), rfl, .int .i64 1000000000000000, _, rfl, (fun _ _ => rfl), rfl, rfl⟩ rfl) rfl rfl (VO.w (fun v H' => ∃ t_5221, .sl (.cap t_5221 2) (([Pr.mk (-1000000000000000) 1000000000000000]).map Pr.c) = v ∧ H' = hq [] ([.cap t_5221 2, tk_5142])) (w_buildSlice (l := [[.int .i64 (-1000000000000000), .int .i64 1000000000000000]]) rfl el22 ⟨rfl, _, _, rfl, rfl, rfl, rfl, rfl⟩ rfl (Nat.le_of_ble_eq_true rfl) (fun tk => ⟨tk, by simp only [List.map_cons, List.map_nil, Pr.c_eq], rfl⟩)) rfl rfl ?_)))
                rintro _ _ ⟨t_5221, rfl, rfl⟩
                refine VO.t (v := .sl (.cap t_5221 2) (([Pr.mk (-1000000000000000) 1000000000000000]).map Pr.c)) (t_assign rfl rfl) rfl rfl (VO.nil (thenQ_normal (VW.subK (.c 2 rfl .n) rfl (VW.hsub (A := hq [] ([.cap t_5221 2])) (hq_sub .slnil (.cons_cons _ (.cons _ .slnil))) (VW.ret (blockQ_ret (thenQ_ret ?_)))))))
                have h := Option.some.inj h
                subst h
                exact ⟨.inr rfl, rfl, _, .sl .fz (([Pr.mk (-1000000000000000) 1000000000000000]).map Pr.c), hq [] [], rfl, VLe.sl _ _, hq_sub .slnil (.cons _ .slnil), rfl, rfl⟩
              · replace h := iteF h hc_5220
                refine VW.skip (blockQ_normal (thenQ_normal (VW.subK (.c 3 rfl .n) rfl (VW.seq (VW.region (VO.t (t_move rfl rfl) rfl rfl ?_))))))
                obtain ⟨c_5222, hc_5222, h⟩ := obind h
                refine VO.t (v := .vptr [.sl .fz (c_5222.map Pr.c)]) (t_indexAddr rfl sl66 rfl (fun _ _ => rfl) (getI_some hc_5222).1 (map_get (getI_some hc_5222).2 rfl) rfl) rfl rfl (VO.r (v := .sl .fz (c_5222.map Pr.c)) (r_load_v rfl sz22 rfl rfl) rfl rfl (VO.t (v := .sl .fz (c_5222.map Pr.c)) (t_assign rfl rfl) rfl rfl (VO.nil (thenQ_normal (VW.subK (.c 2 rfl .n) rfl (VW.hsub (A := hq [] []) (hq_sub .slnil (.cons _ .slnil)) (VW.ret ?_)))))))
                have h := Option.some.inj h
                subst h
                exact ⟨.inr rfl, rfl, _, .sl .fz (c_5222.map Pr.c), hq [] [], rfl, VLe.refl _, hq_sub .slnil .slnil, rfl, rfl⟩

theorem set_Of_ok (a0 : Node) (r : List Pr × Int) (h : PL.set_Of a0 = some r) :
    VCalls Try.prog 22 [.agg [.int .i64 a0.Op, .int .i64 a0.Lo, .int .i64 a0.Hi, .sl .fz (a0.Kids.map Node.c)]] (hq [] []) (fun v H => .tup [.sl .fz (r.1.map Pr.c), .int .i64 r.2] = v ∧ H = hq [] []) := by
  unfold PL.set_Of at h
  refine VCalls.of_body 15 [2, 3] Try.func22 rfl rfl rfl (Nat.le_of_ble_eq_true rfl) (VW.subK (.c 0 rfl .n) rfl (VW.seq (VW.region (VO.w (fun v H' => ∃ ob_5223, .ptr ob_5223 0 = v ∧ H' = hq ([[(ob_5223, .cells [.int .i64 a0.Op, .int .i64 a0.Lo, .int .i64 a0.Hi, .sl .fz (a0.Kids.map Node.c)])]]) []) (w_box_q rfl rfl rfl (fun ob => ⟨ob, rfl, rfl⟩)) rfl rfl ?_))))
  rintro _ _ ⟨ob_5223, rfl, rfl⟩
  refine VO.t (v := .sl .nl []) (t_assign rfl (fun _ _ => .inl ⟨rfl, .inl rfl⟩)) rfl rfl (VO.t (v := .int .i64 0) (t_assign rfl (fun _ _ => rfl)) rfl rfl (VO.nil (thenQ_normal (VW.subK (.c 1 rfl .n) rfl (VW.seq (VW.seq (VW.region (VO.r (v := .agg [.int .i64 a0.Op, .int .i64 a0.Lo, .int .i64 a0.Hi, .sl .fz (a0.Kids.map Node.c)]) (r_load_q (i := 0) rfl sz42 rfl rfl rfl) rfl rfl ?_))))))))
  obtain ⟨rv_5224, hx_5225, h⟩ := obind h
  refine VO.w (fun v H' => .int .i64 rv_5224 = v ∧ H' = hq ([[(ob_5223, .cells [.int .i64 a0.Op, .int .i64 a0.Lo, .int .i64 a0.Hi, .sl .fz (a0.Kids.map Node.c)])]]) []) (w_call_q (sa := []) (sg := [[(ob_5223, .cells [.int .i64 a0.Op, .int .i64 a0.Lo, .int .i64 a0.Hi, .sl .fz (a0.Kids.map Node.c)])]]) (tks := []) rfl fn38 rfl ⟨_, _, rfl, rfl, rfl⟩ (set_check_ok _ _ hx_5225) (by rintro v H' ⟨rfl, rfl⟩; exact ⟨[], rfl, rfl, rfl⟩)) rfl rfl ?_
  rintro _ _ ⟨rfl, rfl⟩
  refine VO.t (v := .int .i64 rv_5224) (t_assign rfl rfl) rfl rfl (VO.nil (thenQ_normal (VW.subK (.c 1 rfl (.c 4 rfl .n)) rfl (VW.seq (VW.region (VO.t (t_move rfl rfl) rfl rfl (VO.t (v := .bool (rv_5224 != 0)) (t_cmp rfl rfl rfl (fun _ _ => rfl) rfl) rfl rfl (VO.nil (thenQ_normal ?_)))))))))
  refine VW.subK (.c 1 rfl (.c 4 rfl (.c 8 rfl .n))) rfl ?_
  refine VW.cond (b := (rv_5224 != 0)) rfl (fun hc_5226 => ?_) (fun hc_5226 => ?_)
  · replace h := iteT h hc_5226
    refine VW.seq (VW.region (VO.t (t_move rfl rfl) rfl rfl (VO.t (v := .sl .nl []) (t_assign rfl (fun _ _ => .inl ⟨rfl, .inl rfl⟩)) rfl rfl (VO.t (v := .int .i64 rv_5224) (t_assign rfl rfl) rfl rfl (VO.nil (thenQ_normal (VW.subK (.c 2 rfl (.c 3 rfl .n)) rfl (VW.hsub (A := hq [] []) (hq_sub (.cons _ .slnil) .slnil) (VW.ret ?_)))))))))
    refine thenQ_ret ?_
    have h := Option.some.inj h
    subst h
    exact ⟨.inr rfl, rfl, _, .tup [.sl .fz [], .int .i64 rv_5224], hq [] [], ⟨_, _, rfl, rfl, rfl⟩, VLe.tup ⟨VLe.sl _ _, VLe.refl _, trivial⟩, hq_sub .slnil .slnil, rfl, rfl⟩
  · replace h := iteF h hc_5226
    refine VW.skip (thenQ_normal (VW.subK (.c 1 rfl .n) rfl (VW.seq (VW.region (VO.r (v := .agg [.int .i64 a0.Op, .int .i64 a0.Lo, .int .i64 a0.Hi, .sl .fz (a0.Kids.map Node.c)]) (r_load_q (i := 0) rfl sz42 rfl rfl rfl) rfl rfl ?_)))))
    obtain ⟨rv_5227, hx_5228, h⟩ := obind h
    refine VO.w (fun v H' => .sl .fz (rv_5227.map Pr.c) = v ∧ H' = hq ([[(ob_5223, .cells [.int .i64 a0.Op, .int .i64 a0.Lo, .int .i64 a0.Hi, .sl .fz (a0.Kids.map Node.c)])]]) []) (w_call_q (sa := []) (sg := [[(ob_5223, .cells [.int .i64 a0.Op, .int .i64 a0.Lo, .int .i64 a0.Hi, .sl .fz (a0.Kids.map Node.c)])]]) (tks := []) rfl fn40 rfl ⟨_, _, rfl, rfl, rfl⟩ (set_value_ok _ _ hx_5228) (by rintro v H' ⟨rfl, rfl⟩; exact ⟨[], rfl, rfl, rfl⟩)) rfl rfl ?_
    rintro _ _ ⟨rfl, rfl⟩
    obtain ⟨⟨rv_5229, rv_5230⟩, hx_5231, h⟩ := obind h
    try dsimp only at h
    refine VO.w (fun v H' => .tup [.sl .fz (rv_5229.map Pr.c), .int .i64 rv_5230] = v ∧ H' = hq ([[(ob_5223, .cells [.int .i64 a0.Op, .int .i64 a0.Lo, .int .i64 a0.Hi, .sl .fz (a0.Kids.map Node.c)])]]) []) (w_call_q (sa := []) (sg := [[(ob_5223, .cells [.int .i64 a0.Op, .int .i64 a0.Lo, .int .i64 a0.Hi, .sl .fz (a0.Kids.map Node.c)])]]) (tks := []) rfl fn39 rfl ⟨_, _, rfl, rfl, rfl⟩ (set_limited_ok _ _ hx_5231) (by rintro v H' ⟨rfl, rfl⟩; exact ⟨[], rfl, rfl, rfl⟩)) rfl rfl ?_
    rintro _ _ ⟨rfl, rfl⟩
    refine VO.t (v := .sl .fz (rv_5229.map Pr.c)) (t_extract rfl rfl rfl) rfl rfl (VO.t (v := .int .i64 rv_5230) (t_extract rfl rfl rfl) rfl rfl (VO.t (v := .sl .fz (rv_5229.map Pr.c)) (t_assign rfl rfl) rfl rfl (VO.t (v := .int .i64 rv_5230) (t_assign rfl rfl) rfl rfl (VO.nil (thenQ_normal (VW.subK (.c 2 rfl (.c 3 rfl .n)) rfl (VW.hsub (A := hq [] []) (hq_sub (.cons _ .slnil) .slnil) (VW.ret ?_))))))))
    have h := Option.some.inj h
    subst h
    exact ⟨.inr rfl, rfl, _, .tup [.sl .fz (rv_5229.map Pr.c), .int .i64 rv_5230], hq [] [], ⟨_, _, rfl, rfl, rfl⟩, VLe.tup ⟨VLe.refl _, VLe.refl _, trivial⟩, hq_sub .slnil .slnil, rfl, rfl⟩

theorem law03_sane_ok (r : Bool) (h : PL.law03_sane = some r) :
    VCalls Try.prog 5 [] (hq [] []) (fun v H => .bool r = v ∧ H = hq [] []) := by
  unfold PL.law03_sane at h
  refine VCalls.of_body 37 [0] Try.func5 rfl rfl rfl (Nat.le_of_ble_eq_true rfl) (VW.subN (t' := []) trivial rfl (VW.seq (VW.region (VO.t (v := .bool false) (t_assign rfl (fun _ _ => rfl)) rfl rfl (VO.nil (thenQ_normal (VW.subN (t' := []) trivial rfl (VW.seq (VW.region ?_)))))))))
  refine VO.t (v := .agg [.int .i64 0, .int .i64 1, .int .i64 5, .sl .nl []]) (t_build rfl st42 ⟨.int .i64 1, _, rfl, (fun _ _ => rfl), rfl, .int .i64 5, _, rfl, (fun _ _ => rfl), rfl, rfl⟩ rfl) rfl rfl (VO.t (v := .agg [.int .i64 0, .int .i64 3, .int .i64 3, .sl .nl []]) (t_build rfl st42 ⟨.int .i64 3, _, rfl, (fun _ _ => rfl), rfl, .int .i64 3, _, rfl, (fun _ _ => rfl), rfl, rfl⟩ rfl) rfl rfl (VO.weak (d := 6) (v' := .agg [.int .i64 0, .int .i64 1, .int .i64 5, .sl .fz []]) rfl (VLe.agg ⟨VLe.refl _, VLe.refl _, VLe.refl _, VLe.sl _ _, trivial⟩) (VO.weak (d := 7) (v' := .agg [.int .i64 0, .int .i64 3, .int .i64 3, .sl .fz []]) rfl (VLe.agg ⟨VLe.refl _, VLe.refl _, VLe.refl _, VLe.sl _ _, trivial⟩) (VO.w (fun v H' => ∃ t_5232, .sl (.cap t_5232 4) (([Node.mk 0 1 5 [], Node.mk 0 3 3 []]).map Node.c) = v ∧ H' = hq [] ([.cap t_5232 4])) (w_buildSlice (l := [[.int .i64 0, .int .i64 1, .int .i64 5, .sl .fz []], [.int .i64 0, .int .i64 3, .int .i64 3, .sl .fz []]]) rfl el40 ⟨rfl, _, _, rfl, rfl, rfl, rfl, rfl, _, _, rfl, rfl, rfl, rfl, rfl⟩ rfl (Nat.le_of_ble_eq_true rfl) (fun tk => ⟨tk, by simp only [List.map_cons, List.map_nil, Node.c_eq], rfl⟩)) rfl rfl ?_))))
  rintro _ _ ⟨t_5232, rfl, rfl⟩
  refine VO.t (v := .agg [.int .i64 3, .int .i64 0, .int .i64 0, .sl (.cap t_5232 4) (([Node.mk 0 1 5 [], Node.mk 0 3 3 []]).map Node.c)]) (t_build rfl st42 ⟨.int .i64 3, _, rfl, (fun _ _ => rfl), rfl, _, _, rfl, rfl, rfl, rfl⟩ rfl) rfl rfl (VO.w (fun v H' => ∃ ob_5233, .ptr ob_5233 0 = v ∧ H' = hq ([[(ob_5233, .cells [.int .i64 0, .int .i64 0, .int .i64 0, .sl .nl []])]]) ([.cap t_5232 4])) (w_alloc_q rfl zt42 (fun ob => ⟨ob, rfl, rfl⟩)) rfl rfl ?_)
  rintro _ _ ⟨ob_5233, rfl, rfl⟩
  refine VO.w (fun v H' => .any = v ∧ H' = hq ([[(ob_5233, .cells [.int .i64 3, .int .i64 0, .int .i64 0, .sl (.cap t_5232 4) (([Node.mk 0 1 5 [], Node.mk 0 3 3 []]).map Node.c)])]]) ([.cap t_5232 4])) (w_store_q (i := 0) rfl sz42 rfl rfl rfl rfl rfl (Nat.le_of_ble_eq_true rfl) ⟨rfl, rfl⟩) rfl rfl ?_
  rintro _ _ ⟨rfl, rfl⟩
  refine VO.nil (thenQ_normal (VW.subK (.c 1 rfl .n) rfl (VW.seq (VW.region (VO.r (v := .agg [.int .i64 3, .int .i64 0, .int .i64 0, .sl (.cap t_5232 4) (([Node.mk 0 1 5 [], Node.mk 0 3 3 []]).map Node.c)]) (r_load_q (i := 0) rfl sz42 rfl rfl rfl) rfl rfl (VO.weak (d := 11) (v' := .agg [.int .i64 3, .int .i64 0, .int .i64 0, .sl .fz (([Node.mk 0 1 5 [], Node.mk 0 3 3 []]).map Node.c)]) rfl (VLe.agg ⟨VLe.refl _, VLe.refl _, VLe.refl _, VLe.sl _ _, trivial⟩) ?_))))))
  obtain ⟨⟨rv_5234, rv_5235⟩, hx_5236, h⟩ := obind h
  try dsimp only at h
  refine VO.w (fun v H' => .tup [.sl .fz (rv_5234.map Pr.c), .int .i64 rv_5235] = v ∧ H' = hq ([[(ob_5233, .cells [.int .i64 3, .int .i64 0, .int .i64 0, .sl (.cap t_5232 4) (([Node.mk 0 1 5 [], Node.mk 0 3 3 []]).map Node.c)])]]) ([.cap t_5232 4])) (w_call_q (sa := []) (sg := [[(ob_5233, .cells [.int .i64 3, .int .i64 0, .int .i64 0, .sl (.cap t_5232 4) (([Node.mk 0 1 5 [], Node.mk 0 3 3 []]).map Node.c)])]]) (tks := [.cap t_5232 4]) rfl fn22 rfl ⟨_, _, rfl, rfl, rfl⟩ (set_Of_ok _ _ hx_5236) (by rintro v H' ⟨rfl, rfl⟩; exact ⟨[], rfl, rfl, rfl⟩)) rfl rfl ?_
  rintro _ _ ⟨rfl, rfl⟩
  refine VO.t (t_move rfl rfl) rfl rfl (VO.t (v := .sl .fz (rv_5234.map Pr.c)) (t_extract rfl rfl rfl) rfl rfl (VO.t (v := .int .i64 rv_5235) (t_extract rfl rfl rfl) rfl rfl (VO.t (v := .sl .fz (rv_5234.map Pr.c)) (t_assign rfl rfl) rfl rfl (VO.t (v := .int .i64 rv_5235) (t_assign rfl rfl) rfl rfl (VO.nil (thenQ_normal (VW.subK (.c 2 rfl (.c 3 rfl .n)) rfl (VW.hsub (A := hq [] []) (hq_sub (.cons _ .slnil) (.cons _ .slnil)) (VW.seq ?_)))))))))
  refine VW.region (VO.t (t_move rfl rfl) rfl rfl ?_)
  obtain ⟨⟨rv_5237, rv_5238⟩, hx_5239, h⟩ := obind h
  try dsimp only at h
  refine VO.w (fun v H' => .tup [.int .i64 rv_5237, .int .i64 rv_5238] = v ∧ H' = hq [] []) (w_call_q (sa := []) (sg := []) (tks := []) rfl fn14 rfl ⟨_, _, rfl, rfl, rfl⟩ (set_Size_ok _ _ hx_5239) (by rintro v H' ⟨rfl, rfl⟩; exact ⟨[], rfl, rfl, rfl⟩)) rfl rfl ?_
  rintro _ _ ⟨rfl, rfl⟩
  refine VO.t (t_move rfl rfl) rfl rfl (VO.t (v := .int .i64 rv_5237) (t_extract rfl rfl rfl) rfl rfl (VO.t (v := .int .i64 rv_5238) (t_extract rfl rfl rfl) rfl rfl (VO.t (v := .int .i64 rv_5237) (t_assign rfl rfl) rfl rfl (VO.t (v := .int .i64 rv_5238) (t_assign rfl rfl) rfl rfl (VO.nil (thenQ_normal (VW.subK (.c 2 rfl (.c 3 rfl (.c 4 rfl (.c 5 rfl .n)))) rfl (VW.seq (VW.region ?_)))))))))
  refine VO.t (t_move rfl rfl) rfl rfl (VO.t (v := .bool (rv_5235 == 0)) (t_cmp rfl rfl rfl (fun _ _ => rfl) rfl) rfl rfl (VO.t (t_move rfl rfl) rfl rfl ?_))
  refine VO.caseB (d := 22) (b := (rv_5235 == 0)) rfl (fun hc_5240 => ?_) (fun hc_5240 => ?_)
  · replace h := iteT h hc_5240
    refine VO.gt (v := .int .i64 rv_5238) (t_move rfl rfl) rfl rfl rfl rfl (VO.gt (v := .bool (rv_5238 == 0)) (t_cmp rfl rfl rfl (fun _ _ => rfl) rfl) rfl rfl rfl rfl (VO.t (v := .bool (rv_5238 == 0)) (t_pick (b := true) rfl rfl (fun _ => rfl) (fun h => by cases h)) rfl rfl (VO.t (t_move rfl rfl) rfl rfl ?_)))
    refine VO.caseB (d := 26) (b := (rv_5238 == 0)) rfl (fun hc_5241 => ?_) (fun hc_5241 => ?_)
    · replace h := iteT h hc_5241
      refine VO.gt (v := .int .i64 rv_5237) (t_move rfl rfl) rfl rfl rfl rfl (VO.gt (v := .bool (rv_5237 == 4)) (t_cmp rfl rfl rfl (fun _ _ => rfl) rfl) rfl rfl rfl rfl (VO.t (v := .bool (rv_5237 == 4)) (t_pick (b := true) rfl rfl (fun _ => rfl) (fun h => by cases h)) rfl rfl (VO.t (t_move rfl rfl) rfl rfl ?_)))
      refine VO.caseB (d := 30) (b := (rv_5237 == 4)) rfl (fun hc_5242 => ?_) (fun hc_5242 => ?_)
      · replace h := iteT h hc_5242
        refine VO.gt (v := .sl .fz (rv_5234.map Pr.c)) (t_move rfl rfl) rfl rfl rfl rfl (VO.gt (v := .agg [.int .i64 1, .int .i64 2]) (t_build_arr rfl av49 ⟨.int .i64 1, _, rfl, (fun _ _ => rfl), rfl, .int .i64 2, _, rfl, (fun _ _ => rfl), rfl, rfl⟩ rfl) rfl rfl rfl rfl (VO.gt (v := .agg [.int .i64 4, .int .i64 5]) (t_build_arr rfl av49 ⟨.int .i64 4, _, rfl, (fun _ _ => rfl), rfl, .int .i64 5, _, rfl, (fun _ _ => rfl), rfl, rfl⟩ rfl) rfl rfl rfl rfl (VO.gw (fun v H' => ∃ t_5243, .sl (.cap t_5243 2) (([Pr.mk 1 2, Pr.mk 4 5]).map Pr.c) = v ∧ H' = hq [] ([.cap t_5243 2])) (w_buildSlice (l := [[.int .i64 1, .int .i64 2], [.int .i64 4, .int .i64 5]]) rfl el22 ⟨rfl, _, _, rfl, rfl, rfl, rfl, rfl, _, _, rfl, rfl, rfl, rfl, rfl⟩ rfl (Nat.le_of_ble_eq_true rfl) (fun tk => ⟨tk, by simp only [List.map_cons, List.map_nil, Pr.c_eq], rfl⟩)) rfl rfl rfl rfl ?_)))
        rintro _ _ ⟨t_5243, rfl, rfl⟩
        refine VO.weak (d := 34) (v' := .sl .fz (([Pr.mk 1 2, Pr.mk 4 5]).map Pr.c)) rfl (VLe.sl _ _) ?_
        obtain ⟨rv_5244, hx_5245, h⟩ := obind h
        refine VO.gw (fun v H' => .bool rv_5244 = v ∧ H' = hq [] ([.cap t_5243 2])) (w_call_q (sa := []) (sg := []) (tks := [.cap t_5243 2]) rfl fn9 rfl ⟨_, _, rfl, rfl, _, _, rfl, rfl, rfl⟩ (ref01_Pairs_ok _ _ _ hx_5245) (by rintro v H' ⟨rfl, rfl⟩; exact ⟨[], rfl, rfl, rfl⟩)) rfl rfl rfl rfl ?_
        rintro _ _ ⟨rfl, rfl⟩
        refine VO.t (v := .bool rv_5244) (t_pick (b := true) rfl rfl (fun _ => rfl) (fun h => by cases h)) rfl rfl (VO.t (v := .bool rv_5244) (t_assign rfl rfl) rfl rfl (VO.nil (thenQ_normal (VW.subK (.c 0 rfl .n) rfl (VW.hsub (A := hq [] []) (hq_sub .slnil (.cons _ .slnil)) (VW.ret ?_))))))
        have h := Option.some.inj h
        subst h
        exact ⟨.inr rfl, rfl, _, .bool rv_5244, hq [] [], rfl, VLe.refl _, hq_sub .slnil .slnil, rfl, rfl⟩
      · replace h := iteF h hc_5242
        refine VO.gskip rfl rfl rfl rfl rfl (VO.gskip rfl rfl rfl rfl rfl (VO.gskip rfl rfl rfl rfl rfl (VO.gskip rfl rfl rfl rfl rfl (VO.gskip rfl rfl rfl rfl rfl (VO.t (v := .bool false) (t_pick (b := false) rfl rfl (fun h => by cases h) (fun _ => (fun _ _ => rfl))) rfl rfl (VO.t (v := .bool false) (t_assign rfl rfl) rfl rfl (VO.nil (thenQ_normal (VW.subK (.c 0 rfl .n) rfl ?_)))))))))
        refine VW.ret ?_
        have h := Option.some.inj h
        subst h
        exact ⟨.inr rfl, rfl, _, .bool false, hq [] [], rfl, VLe.refl _, hq_sub .slnil .slnil, rfl, rfl⟩
    · replace h := iteF h hc_5241
      refine VO.gskip rfl rfl rfl rfl rfl (VO.gskip rfl rfl rfl rfl rfl (VO.t (v := .bool false) (t_pick (b := false) rfl rfl (fun h => by cases h) (fun _ => (fun _ _ => rfl))) rfl rfl (VO.t (t_move rfl rfl) rfl rfl (VO.gskip rfl rfl rfl rfl rfl (VO.gskip rfl rfl rfl rfl rfl (VO.gskip rfl rfl rfl rfl rfl (VO.gskip rfl rfl rfl rfl rfl (VO.gskip rfl rfl rfl rfl rfl (VO.t (v := .bool false) (t_pick (b := false) rfl rfl (fun h => by cases h) (fun _ => (fun _ _ => rfl))) rfl rfl ?_)))))))))
      refine VO.t (v := .bool false) (t_assign rfl rfl) rfl rfl (VO.nil (thenQ_normal (VW.subK (.c 0 rfl .n) rfl (VW.ret ?_))))
      have h := Option.some.inj h
      subst h
      exact ⟨.inr rfl, rfl, _, .bool false, hq [] [], rfl, VLe.refl _, hq_sub .slnil .slnil, rfl, rfl⟩
  · replace h := iteF h hc_5240
    refine VO.gskip rfl rfl rfl rfl rfl (VO.gskip rfl rfl rfl rfl rfl (VO.t (v := .bool false) (t_pick (b := false) rfl rfl (fun h => by cases h) (fun _ => (fun _ _ => rfl))) rfl rfl (VO.t (t_move rfl rfl) rfl rfl (VO.gskip rfl rfl rfl rfl rfl (VO.gskip rfl rfl rfl rfl rfl (VO.t (v := .bool false) (t_pick (b := false) rfl rfl (fun h => by cases h) (fun _ => (fun _ _ => rfl))) rfl rfl (VO.t (t_move rfl rfl) rfl rfl (VO.gskip rfl rfl rfl rfl rfl (VO.gskip rfl rfl rfl rfl rfl ?_)))))))))
    refine VO.gskip rfl rfl rfl rfl rfl (VO.gskip rfl rfl rfl rfl rfl (VO.gskip rfl rfl rfl rfl rfl (VO.t (v := .bool false) (t_pick (b := false) rfl rfl (fun h => by cases h) (fun _ => (fun _ _ => rfl))) rfl rfl (VO.t (v := .bool false) (t_assign rfl rfl) rfl rfl (VO.nil (thenQ_normal (VW.subK (.c 0 rfl .n) rfl (VW.ret ?_))))))))
    have h := Option.some.inj h
    subst h
    exact ⟨.inr rfl, rfl, _, .bool false, hq [] [], rfl, VLe.refl _, hq_sub .slnil .slnil, rfl, rfl⟩

theorem ref01_CopyPairs_ok (a0 : List Pr) (r : List Pr) (h : PL.ref01_CopyPairs a0 = some r) :
    VCalls Try.prog 6 [.sl .fz (a0.map Pr.c)] (hq [] []) (fun v H => .sl .fz (r.map Pr.c) = v ∧ H = hq [] []) := by
  unfold PL.ref01_CopyPairs at h
  refine VCalls.of_body 6 [2] Try.func6 rfl rfl rfl (Nat.le_of_ble_eq_true rfl) (VW.subK (.c 0 rfl .n) rfl (VW.seq (VW.region (VO.t (v := .sl .nl []) (t_assign rfl (fun _ _ => .inl ⟨rfl, .inl rfl⟩)) rfl rfl (VO.nil (thenQ_normal (VW.subK (.c 0 rfl .n) rfl (VW.seq (VW.region ?_)))))))))
  refine VO.w (fun v H' => ∃ t_5246, .sl (.cap t_5246 2) [] = v ∧ H' = hq [] ([.cap t_5246 2])) (w_buildSlice (l := []) rfl el22 rfl rfl (Nat.le_of_ble_eq_true rfl) (fun tk => ⟨tk, rfl, rfl⟩)) rfl rfl ?_
  rintro _ _ ⟨t_5246, rfl, rfl⟩
  refine VO.t (t_move rfl rfl) rfl rfl ?_
  obtain ⟨_, hr_5247, h⟩ := obind h
  refine VO.w (fun v H' => ∃ t_5248, .sl (.cap t_5248 2) (a0.map Pr.c) = v ∧ H' = hq [] ([.cap t_5248 2])) (w_append (objs := List.flatten []) (tks := [.cap t_5246 2]) (i := 0) rfl el22 rfl rfl (.inr ⟨_, rfl⟩) rfl (elemsOK_map Pr.c_ok _) (by have := room_some hr_5247; simpa using this) (Nat.le_of_ble_eq_true rfl) (fun t => ⟨t, by simp only [List.map_append, List.map_nil, List.nil_append], rfl⟩)) rfl rfl ?_
  rintro _ _ ⟨t_5248, rfl, rfl⟩
  refine VO.t (v := .sl (.cap t_5248 2) (a0.map Pr.c)) (t_assign rfl rfl) rfl rfl (VO.nil (thenQ_normal (VW.subK (.c 2 rfl .n) rfl (VW.ret ?_))))
  have h := Option.some.inj h
  subst h
  exact ⟨.inr rfl, rfl, _, .sl .fz (a0.map Pr.c), hq [] [], rfl, VLe.sl _ _, hq_sub .slnil (.cons _ .slnil), rfl, rfl⟩

end Go.AV
