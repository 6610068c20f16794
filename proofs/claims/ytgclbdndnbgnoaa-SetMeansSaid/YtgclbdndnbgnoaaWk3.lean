/- The walks: each printed theorem says what a function of the program does. -/
import Derived.Test.YtgclbdndnbgnoaaWk2
namespace Go.AV
open Go.Proofs
set_option maxRecDepth 100000
set_option linter.all false

theorem law03_node_ok (a0 : Node) (r : Node) (h : PL.law03_node a0 = some r) :
    VCalls Try.prog 23 [.agg [.int .i64 a0.Op, .int .i64 a0.Lo, .int .i64 a0.Hi, .sl .fz (a0.Kids.map Node.c)]] (hq [] []) (fun v H => .agg [.int .i64 r.Op, .int .i64 r.Lo, .int .i64 r.Hi, .sl .fz (r.Kids.map Node.c)] = v ∧ H = hq [] []) := by
  revert h
  refine (PL.law03_node.l0.mutual_partial_correctness (motive_1 := fun a0 c_6469 i_6472 o => ∀ (Q : Exit → Env → HH → Prop) (ob_6353 : Nat) (ob_6354 : Nat) (ob_6355 : Nat) (tk_6470 : Tok) (hg_6471 : Tok.grow tk_6470 4 (c_6469.map Node.c)) (hx0 : ∀ (c_6499 : List Node) (tk_6500 : Tok), c_6499 = o → Tok.grow tk_6500 4 (c_6499.map Node.c) → Q (.exit 0) ⟨[(2, .ptr ob_6354 0), (3, .ptr ob_6355 0)], []⟩ (hq ([[(ob_6354, .cells [.int .i64 0, .int .i64 0, .int .i64 0, .sl .nl []])], [(ob_6355, .cells [.int .i64 a0.Op, .int .i64 a0.Lo, .int .i64 a0.Hi, .sl tk_6500 (c_6499.map Node.c)])]]) ([tk_6500]))), VW Try.prog 31 (codeAt [1, 1, 0, 1, 0, 0] (bodyOf Try.f23)) (thenQ (VL Try.prog 31 (codeAt [1, 1, 0, 1, 0, 0] (bodyOf Try.f23)) Q) Q) ⟨[(1, .ptr ob_6353 0), (2, .ptr ob_6354 0), (3, .ptr ob_6355 0), (4, .int .i64 i_6472)], []⟩ (hq ([[(ob_6353, .cells [.int .i64 a0.Op, .int .i64 a0.Lo, .int .i64 a0.Hi, .sl .fz (a0.Kids.map Node.c)])], [(ob_6354, .cells [.int .i64 0, .int .i64 0, .int .i64 0, .sl .nl []])], [(ob_6355, .cells [.int .i64 a0.Op, .int .i64 a0.Lo, .int .i64 a0.Hi, .sl tk_6470 (c_6469.map Node.c)])]]) ([tk_6470]))) (motive_2 := fun a0 r => VCalls Try.prog 23 [.agg [.int .i64 a0.Op, .int .i64 a0.Lo, .int .i64 a0.Hi, .sl .fz (a0.Kids.map Node.c)]] (hq [] []) (fun v H => .agg [.int .i64 r.Op, .int .i64 r.Lo, .int .i64 r.Hi, .sl .fz (r.Kids.map Node.c)] = v ∧ H = hq [] [])) ?_ ?_).2 a0 r
  · intro _ _ ih_law03_node_l0 ih_law03_node a0 c_6469 i_6472 o h Q ob_6353 ob_6354 ob_6355 tk_6470 hg_6471 hx0
    refine VW.seq (VW.seq (VW.region (VO.t (t_move rfl rfl) rfl rfl (VO.t (v := .ptr ob_6353 3) (t_fieldAddr_ptr rfl fi36_3 rfl rfl) rfl rfl (VO.r (v := .sl .fz (a0.Kids.map Node.c)) (r_load_q (i := 0) rfl sz34 rfl rfl rfl) rfl rfl (VO.t (v := .int .i64 (a0.Kids.length : Int)) (t_len rfl ⟨_, Try.underlying34⟩ rfl (by rw [List.length_map])) rfl rfl (VO.t (v := .bool (decide (i_6472 < (a0.Kids.length : Int)))) (t_cmp rfl rfl rfl rfl rfl) rfl rfl (VO.nil (thenQ_normal ?_)))))))))
    refine VW.subK (.c 1 rfl (.c 2 rfl (.c 3 rfl (.c 4 rfl (.c 16 rfl .n))))) rfl ?_
    refine VW.cond (b := (decide (i_6472 < (a0.Kids.length : Int)))) rfl (fun hc_6502 => ?_) (fun hc_6502 => ?_)
    · replace h := iteT h hc_6502
      refine VW.skip (thenQ_normal (VW.subK (.c 1 rfl (.c 2 rfl (.c 3 rfl (.c 4 rfl .n)))) rfl (VW.seq (VW.block (VW.draw 12 mix rfl (VA.t (i := 0) (v := .ptr ob_6355 3) rfl (t_fieldAddr_ptr rfl fi42_3 rfl rfl) (.inl rfl) (by kernel_rfl) (VA.t (i := 2) (v := .ptr ob_6353 3) rfl (t_fieldAddr_ptr rfl fi36_3 rfl rfl) (.inl rfl) (by kernel_rfl) (VA.t (i := 4) rfl (t_move rfl rfl) (.inl rfl) (by kernel_rfl) ?_))))))))
      refine VA.alt [1, 3] (by kernel_rfl) rfl ⟨?_, ?_, trivial⟩
      · refine VA1.r (i := 1) (v := .sl tk_6470 (c_6469.map Node.c)) rfl (r_load_q (i := 2) rfl sz40 rfl rfl rfl) (.inl rfl) rfl (VA.phase (g := 5) [3, 5, 6] 3 (VP.take (i := 3) (v := .sl .fz (a0.Kids.map Node.c)) rfl (r_load_q (i := 0) rfl sz34 rfl rfl rfl) (.inl rfl) (by kernel_rfl) ?_))
        obtain ⟨c_6503, hc_6503, h⟩ := obind h
        refine VP.take (i := 5) (v := .vptr [.int .i64 c_6503.Op, .int .i64 c_6503.Lo, .int .i64 c_6503.Hi, .sl .fz (c_6503.Kids.map Node.c)]) rfl (TOp.r (t_indexAddr rfl sl34 rfl rfl (getI_some hc_6503).1 (map_get (getI_some hc_6503).2 (Node.c_eq c_6503)) rfl)) (.inl rfl) (by kernel_rfl) (VP.take (i := 6) (v := .agg [.int .i64 c_6503.Op, .int .i64 c_6503.Lo, .int .i64 c_6503.Hi, .sl .fz (c_6503.Kids.map Node.c)]) rfl (r_load_v rfl sz36 rfl rfl) (.inl rfl) (by kernel_rfl) (VP.done (by kernel_rfl) ?_))
        obtain ⟨rv_6504, hx_6505, h⟩ := obind h
        refine VA.w (i := 7) (fun v H' => .agg [.int .i64 rv_6504.Op, .int .i64 rv_6504.Lo, .int .i64 rv_6504.Hi, .sl .fz (rv_6504.Kids.map Node.c)] = v ∧ H' = hq ([[(ob_6353, .cells [.int .i64 a0.Op, .int .i64 a0.Lo, .int .i64 a0.Hi, .sl .fz (a0.Kids.map Node.c)])], [(ob_6354, .cells [.int .i64 0, .int .i64 0, .int .i64 0, .sl .nl []])], [(ob_6355, .cells [.int .i64 a0.Op, .int .i64 a0.Lo, .int .i64 a0.Hi, .sl tk_6470 (c_6469.map Node.c)])]]) ([tk_6470])) rfl (w_call_q (sa := []) (sg := [[(ob_6353, .cells [.int .i64 a0.Op, .int .i64 a0.Lo, .int .i64 a0.Hi, .sl .fz (a0.Kids.map Node.c)])], [(ob_6354, .cells [.int .i64 0, .int .i64 0, .int .i64 0, .sl .nl []])], [(ob_6355, .cells [.int .i64 a0.Op, .int .i64 a0.Lo, .int .i64 a0.Hi, .sl tk_6470 (c_6469.map Node.c)])]]) (tks := [tk_6470]) rfl fn23 rfl ⟨_, _, rfl, rfl, rfl⟩ (ih_law03_node _ _ hx_6505) (by rintro v H' ⟨rfl, rfl⟩; exact ⟨[], rfl, rfl, rfl⟩)) (.inl rfl) (by kernel_rfl) rfl ?_
        rintro _ _ ⟨rfl, rfl⟩
        refine VA.w (i := 8) (fun v H' => ∃ t_6506, .sl (.cap t_6506 4) (([rv_6504]).map Node.c) = v ∧ H' = hq ([[(ob_6353, .cells [.int .i64 a0.Op, .int .i64 a0.Lo, .int .i64 a0.Hi, .sl .fz (a0.Kids.map Node.c)])], [(ob_6354, .cells [.int .i64 0, .int .i64 0, .int .i64 0, .sl .nl []])], [(ob_6355, .cells [.int .i64 a0.Op, .int .i64 a0.Lo, .int .i64 a0.Hi, .sl tk_6470 (c_6469.map Node.c)])]]) ([.cap t_6506 4, tk_6470])) rfl (w_buildSlice (l := [[.int .i64 rv_6504.Op, .int .i64 rv_6504.Lo, .int .i64 rv_6504.Hi, .sl .fz (rv_6504.Kids.map Node.c)]]) rfl el40 ⟨rfl, _, _, rfl, rfl, rfl, rfl, rfl⟩ rfl (Nat.le_of_ble_eq_true rfl) (fun tk => ⟨tk, by simp only [List.map_cons, List.map_nil, Node.c_eq], rfl⟩)) (.inl rfl) (by kernel_rfl) rfl ?_
        rintro _ _ ⟨t_6506, rfl, rfl⟩
        obtain ⟨_, hr_6507, h⟩ := obind h
        refine VA.w (i := 9) (fun v H' => ∃ t_6508, .sl (.cap t_6508 4) ((c_6469 ++ ([rv_6504])).map Node.c) = v ∧ H' = hq ([[(ob_6353, .cells [.int .i64 a0.Op, .int .i64 a0.Lo, .int .i64 a0.Hi, .sl .fz (a0.Kids.map Node.c)])], [(ob_6354, .cells [.int .i64 0, .int .i64 0, .int .i64 0, .sl .nl []])], [(ob_6355, .cells [.int .i64 a0.Op, .int .i64 a0.Lo, .int .i64 a0.Hi, .sl tk_6470 (c_6469.map Node.c)])]]) ([.cap t_6508 4, .cap t_6506 4])) rfl (w_append (objs := List.flatten [[(ob_6353, .cells [.int .i64 a0.Op, .int .i64 a0.Lo, .int .i64 a0.Hi, .sl .fz (a0.Kids.map Node.c)])], [(ob_6354, .cells [.int .i64 0, .int .i64 0, .int .i64 0, .sl .nl []])], [(ob_6355, .cells [.int .i64 a0.Op, .int .i64 a0.Lo, .int .i64 a0.Hi, .sl tk_6470 (c_6469.map Node.c)])]]) (tks := [.cap t_6506 4, tk_6470]) (i := 1) rfl el40 rfl rfl hg_6471 rfl (elemsOK_map Node.c_ok _) (by have := room_some hr_6507; simpa using this) (Nat.le_of_ble_eq_true rfl) (fun t => ⟨t, by simp only [List.map_append, List.map_nil, List.nil_append], rfl⟩)) (.inl rfl) (by kernel_rfl) rfl ?_
        rintro _ _ ⟨t_6508, rfl, rfl⟩
        refine VA.t (i := 10) (v := .ptr ob_6355 3) rfl (t_fieldAddr_ptr rfl fi42_3 rfl rfl) (.inl rfl) (by kernel_rfl) (VA.w (i := 11) (fun v H' => .any = v ∧ H' = hq ([[(ob_6353, .cells [.int .i64 a0.Op, .int .i64 a0.Lo, .int .i64 a0.Hi, .sl .fz (a0.Kids.map Node.c)])], [(ob_6354, .cells [.int .i64 0, .int .i64 0, .int .i64 0, .sl .nl []])], [(ob_6355, .cells [.int .i64 a0.Op, .int .i64 a0.Lo, .int .i64 a0.Hi, .sl (.cap t_6508 4) ((c_6469 ++ ([rv_6504])).map Node.c)])]]) ([.cap t_6508 4, .cap t_6506 4])) rfl (w_store_q (i := 2) rfl sz40 rfl rfl rfl rfl rfl (Nat.le_of_ble_eq_true rfl) ⟨rfl, rfl⟩) (.inl rfl) (by kernel_rfl) rfl ?_)
        rintro _ _ ⟨rfl, rfl⟩
        refine VA.done (by kernel_rfl) (blockQ_normal (thenQ_normal (VW.subK (.c 1 rfl (.c 2 rfl (.c 3 rfl (.c 4 rfl .n)))) rfl (VW.hsub (A := hq ([[(ob_6353, .cells [.int .i64 a0.Op, .int .i64 a0.Lo, .int .i64 a0.Hi, .sl .fz (a0.Kids.map Node.c)])], [(ob_6354, .cells [.int .i64 0, .int .i64 0, .int .i64 0, .sl .nl []])], [(ob_6355, .cells [.int .i64 a0.Op, .int .i64 a0.Lo, .int .i64 a0.Hi, .sl (.cap t_6508 4) ((c_6469 ++ ([rv_6504])).map Node.c)])]]) ([.cap t_6508 4])) (hq_sub (.cons_cons _ (.cons_cons _ (.cons_cons _ .slnil))) (.cons_cons _ (.cons _ .slnil))) (VW.region (VO.t (t_move rfl rfl) rfl rfl (VO.t (v := .int .i64 (w64 (i_6472 + 1))) (t_add rfl rfl (fun _ _ => rfl) rfl) rfl rfl (VO.t (v := .int .i64 (w64 (i_6472 + 1))) (t_assign rfl rfl) rfl rfl (VO.nil ?_)))))))))
        refine thenQ_normal (VL.round ?_)
        refine VW.subK (.c 1 rfl (.c 2 rfl (.c 3 rfl (.c 4 rfl .n)))) rfl ?_
        exact ih_law03_node_l0 _ _ _ _ h _ ob_6353 ob_6354 ob_6355 (.cap t_6508 4) (.inr ⟨_, rfl⟩) hx0
      · refine VA1.r (i := 3) (v := .sl .fz (a0.Kids.map Node.c)) rfl (r_load_q (i := 0) rfl sz34 rfl rfl rfl) (.inl rfl) rfl ?_
        obtain ⟨c_6509, hc_6509, h⟩ := obind h
        refine VA.t (i := 5) (v := .vptr [.int .i64 c_6509.Op, .int .i64 c_6509.Lo, .int .i64 c_6509.Hi, .sl .fz (c_6509.Kids.map Node.c)]) rfl (t_indexAddr rfl sl34 rfl rfl (getI_some hc_6509).1 (map_get (getI_some hc_6509).2 (Node.c_eq c_6509)) rfl) (.inl rfl) (by kernel_rfl) ?_
        refine VA.alt [1, 6] (by kernel_rfl) rfl ⟨?_, ?_, trivial⟩
        · refine VA1.r (i := 1) (v := .sl tk_6470 (c_6469.map Node.c)) rfl (r_load_q (i := 2) rfl sz40 rfl rfl rfl) (.inl rfl) rfl (VA.phase (g := 5) [6] 1 (VP.take (i := 6) (v := .agg [.int .i64 c_6509.Op, .int .i64 c_6509.Lo, .int .i64 c_6509.Hi, .sl .fz (c_6509.Kids.map Node.c)]) rfl (r_load_v rfl sz36 rfl rfl) (.inl rfl) (by kernel_rfl) (VP.done (by kernel_rfl) ?_)))
          obtain ⟨rv_6510, hx_6511, h⟩ := obind h
          refine VA.w (i := 7) (fun v H' => .agg [.int .i64 rv_6510.Op, .int .i64 rv_6510.Lo, .int .i64 rv_6510.Hi, .sl .fz (rv_6510.Kids.map Node.c)] = v ∧ H' = hq ([[(ob_6353, .cells [.int .i64 a0.Op, .int .i64 a0.Lo, .int .i64 a0.Hi, .sl .fz (a0.Kids.map Node.c)])], [(ob_6354, .cells [.int .i64 0, .int .i64 0, .int .i64 0, .sl .nl []])], [(ob_6355, .cells [.int .i64 a0.Op, .int .i64 a0.Lo, .int .i64 a0.Hi, .sl tk_6470 (c_6469.map Node.c)])]]) ([tk_6470])) rfl (w_call_q (sa := []) (sg := [[(ob_6353, .cells [.int .i64 a0.Op, .int .i64 a0.Lo, .int .i64 a0.Hi, .sl .fz (a0.Kids.map Node.c)])], [(ob_6354, .cells [.int .i64 0, .int .i64 0, .int .i64 0, .sl .nl []])], [(ob_6355, .cells [.int .i64 a0.Op, .int .i64 a0.Lo, .int .i64 a0.Hi, .sl tk_6470 (c_6469.map Node.c)])]]) (tks := [tk_6470]) rfl fn23 rfl ⟨_, _, rfl, rfl, rfl⟩ (ih_law03_node _ _ hx_6511) (by rintro v H' ⟨rfl, rfl⟩; exact ⟨[], rfl, rfl, rfl⟩)) (.inl rfl) (by kernel_rfl) rfl ?_
          rintro _ _ ⟨rfl, rfl⟩
          refine VA.w (i := 8) (fun v H' => ∃ t_6512, .sl (.cap t_6512 4) (([rv_6510]).map Node.c) = v ∧ H' = hq ([[(ob_6353, .cells [.int .i64 a0.Op, .int .i64 a0.Lo, .int .i64 a0.Hi, .sl .fz (a0.Kids.map Node.c)])], [(ob_6354, .cells [.int .i64 0, .int .i64 0, .int .i64 0, .sl .nl []])], [(ob_6355, .cells [.int .i64 a0.Op, .int .i64 a0.Lo, .int .i64 a0.Hi, .sl tk_6470 (c_6469.map Node.c)])]]) ([.cap t_6512 4, tk_6470])) rfl (w_buildSlice (l := [[.int .i64 rv_6510.Op, .int .i64 rv_6510.Lo, .int .i64 rv_6510.Hi, .sl .fz (rv_6510.Kids.map Node.c)]]) rfl el40 ⟨rfl, _, _, rfl, rfl, rfl, rfl, rfl⟩ rfl (Nat.le_of_ble_eq_true rfl) (fun tk => ⟨tk, by simp only [List.map_cons, List.map_nil, Node.c_eq], rfl⟩)) (.inl rfl) (by kernel_rfl) rfl ?_
          rintro _ _ ⟨t_6512, rfl, rfl⟩
          obtain ⟨_, hr_6513, h⟩ := obind h
          refine VA.w (i := 9) (fun v H' => ∃ t_6514, .sl (.cap t_6514 4) ((c_6469 ++ ([rv_6510])).map Node.c) = v ∧ H' = hq ([[(ob_6353, .cells [.int .i64 a0.Op, .int .i64 a0.Lo, .int .i64 a0.Hi, .sl .fz (a0.Kids.map Node.c)])], [(ob_6354, .cells [.int .i64 0, .int .i64 0, .int .i64 0, .sl .nl []])], [(ob_6355, .cells [.int .i64 a0.Op, .int .i64 a0.Lo, .int .i64 a0.Hi, .sl tk_6470 (c_6469.map Node.c)])]]) ([.cap t_6514 4, .cap t_6512 4])) rfl (w_append (objs := List.flatten [[(ob_6353, .cells [.int .i64 a0.Op, .int .i64 a0.Lo, .int .i64 a0.Hi, .sl .fz (a0.Kids.map Node.c)])], [(ob_6354, .cells [.int .i64 0, .int .i64 0, .int .i64 0, .sl .nl []])], [(ob_6355, .cells [.int .i64 a0.Op, .int .i64 a0.Lo, .int .i64 a0.Hi, .sl tk_6470 (c_6469.map Node.c)])]]) (tks := [.cap t_6512 4, tk_6470]) (i := 1) rfl el40 rfl rfl hg_6471 rfl (elemsOK_map Node.c_ok _) (by have := room_some hr_6513; simpa using this) (Nat.le_of_ble_eq_true rfl) (fun t => ⟨t, by simp only [List.map_append, List.map_nil, List.nil_append], rfl⟩)) (.inl rfl) (by kernel_rfl) rfl ?_
          rintro _ _ ⟨t_6514, rfl, rfl⟩
          refine VA.t (i := 10) (v := .ptr ob_6355 3) rfl (t_fieldAddr_ptr rfl fi42_3 rfl rfl) (.inl rfl) (by kernel_rfl) (VA.w (i := 11) (fun v H' => .any = v ∧ H' = hq ([[(ob_6353, .cells [.int .i64 a0.Op, .int .i64 a0.Lo, .int .i64 a0.Hi, .sl .fz (a0.Kids.map Node.c)])], [(ob_6354, .cells [.int .i64 0, .int .i64 0, .int .i64 0, .sl .nl []])], [(ob_6355, .cells [.int .i64 a0.Op, .int .i64 a0.Lo, .int .i64 a0.Hi, .sl (.cap t_6514 4) ((c_6469 ++ ([rv_6510])).map Node.c)])]]) ([.cap t_6514 4, .cap t_6512 4])) rfl (w_store_q (i := 2) rfl sz40 rfl rfl rfl rfl rfl (Nat.le_of_ble_eq_true rfl) ⟨rfl, rfl⟩) (.inl rfl) (by kernel_rfl) rfl ?_)
          rintro _ _ ⟨rfl, rfl⟩
          refine VA.done (by kernel_rfl) (blockQ_normal (thenQ_normal (VW.subK (.c 1 rfl (.c 2 rfl (.c 3 rfl (.c 4 rfl .n)))) rfl (VW.hsub (A := hq ([[(ob_6353, .cells [.int .i64 a0.Op, .int .i64 a0.Lo, .int .i64 a0.Hi, .sl .fz (a0.Kids.map Node.c)])], [(ob_6354, .cells [.int .i64 0, .int .i64 0, .int .i64 0, .sl .nl []])], [(ob_6355, .cells [.int .i64 a0.Op, .int .i64 a0.Lo, .int .i64 a0.Hi, .sl (.cap t_6514 4) ((c_6469 ++ ([rv_6510])).map Node.c)])]]) ([.cap t_6514 4])) (hq_sub (.cons_cons _ (.cons_cons _ (.cons_cons _ .slnil))) (.cons_cons _ (.cons _ .slnil))) (VW.region (VO.t (t_move rfl rfl) rfl rfl (VO.t (v := .int .i64 (w64 (i_6472 + 1))) (t_add rfl rfl (fun _ _ => rfl) rfl) rfl rfl (VO.t (v := .int .i64 (w64 (i_6472 + 1))) (t_assign rfl rfl) rfl rfl (VO.nil ?_)))))))))
          refine thenQ_normal (VL.round ?_)
          refine VW.subK (.c 1 rfl (.c 2 rfl (.c 3 rfl (.c 4 rfl .n)))) rfl ?_
          exact ih_law03_node_l0 _ _ _ _ h _ ob_6353 ob_6354 ob_6355 (.cap t_6514 4) (.inr ⟨_, rfl⟩) hx0
        · refine VA1.r (i := 6) (v := .agg [.int .i64 c_6509.Op, .int .i64 c_6509.Lo, .int .i64 c_6509.Hi, .sl .fz (c_6509.Kids.map Node.c)]) rfl (r_load_v rfl sz36 rfl rfl) (.inl rfl) rfl ?_
          refine VA.alt [1, 7] (by kernel_rfl) rfl ⟨?_, ?_, trivial⟩
          · refine VA1.r (i := 1) (v := .sl tk_6470 (c_6469.map Node.c)) rfl (r_load_q (i := 2) rfl sz40 rfl rfl rfl) (.inl rfl) rfl ?_
            obtain ⟨rv_6515, hx_6516, h⟩ := obind h
            refine VA.w (i := 7) (fun v H' => .agg [.int .i64 rv_6515.Op, .int .i64 rv_6515.Lo, .int .i64 rv_6515.Hi, .sl .fz (rv_6515.Kids.map Node.c)] = v ∧ H' = hq ([[(ob_6353, .cells [.int .i64 a0.Op, .int .i64 a0.Lo, .int .i64 a0.Hi, .sl .fz (a0.Kids.map Node.c)])], [(ob_6354, .cells [.int .i64 0, .int .i64 0, .int .i64 0, .sl .nl []])], [(ob_6355, .cells [.int .i64 a0.Op, .int .i64 a0.Lo, .int .i64 a0.Hi, .sl tk_6470 (c_6469.map Node.c)])]]) ([tk_6470])) rfl (w_call_q (sa := []) (sg := [[(ob_6353, .cells [.int .i64 a0.Op, .int .i64 a0.Lo, .int .i64 a0.Hi, .sl .fz (a0.Kids.map Node.c)])], [(ob_6354, .cells [.int .i64 0, .int .i64 0, .int .i64 0, .sl .nl []])], [(ob_6355, .cells [.int .i64 a0.Op, .int .i64 a0.Lo, .int .i64 a0.Hi, .sl tk_6470 (c_6469.map Node.c)])]]) (tks := [tk_6470]) rfl fn23 rfl ⟨_, _, rfl, rfl, rfl⟩ (ih_law03_node _ _ hx_6516) (by rintro v H' ⟨rfl, rfl⟩; exact ⟨[], rfl, rfl, rfl⟩)) (.inl rfl) (by kernel_rfl) rfl ?_
            rintro _ _ ⟨rfl, rfl⟩
            refine VA.w (i := 8) (fun v H' => ∃ t_6517, .sl (.cap t_6517 4) (([rv_6515]).map Node.c) = v ∧ H' = hq ([[(ob_6353, .cells [.int .i64 a0.Op, .int .i64 a0.Lo, .int .i64 a0.Hi, .sl .fz (a0.Kids.map Node.c)])], [(ob_6354, .cells [.int .i64 0, .int .i64 0, .int .i64 0, .sl .nl []])], [(ob_6355, .cells [.int .i64 a0.Op, .int .i64 a0.Lo, .int .i64 a0.Hi, .sl tk_6470 (c_6469.map Node.c)])]]) ([.cap t_6517 4, tk_6470])) rfl (w_buildSlice (l := [[.int .i64 rv_6515.Op, .int .i64 rv_6515.Lo, .int .i64 rv_6515.Hi, .sl .fz (rv_6515.Kids.map Node.c)]]) rfl el40 ⟨rfl, _, _, rfl, rfl, rfl, rfl, rfl⟩ rfl (Nat.le_of_ble_eq_true rfl) (fun tk => ⟨tk, by simp only [List.map_cons, List.map_nil, Node.c_eq], rfl⟩)) (.inl rfl) (by kernel_rfl) rfl ?_
            rintro _ _ ⟨t_6517, rfl, rfl⟩
            obtain ⟨_, hr_6518, h⟩ := obind h
            refine VA.w (i := 9) (fun v H' => ∃ t_6519, .sl (.cap t_6519 4) ((c_6469 ++ ([rv_6515])).map Node.c) = v ∧ H' = hq ([[(ob_6353, .cells [.int .i64 a0.Op, .int .i64 a0.Lo, .int .i64 a0.Hi, .sl .fz (a0.Kids.map Node.c)])], [(ob_6354, .cells [.int .i64 0, .int .i64 0, .int .i64 0, .sl .nl []])], [(ob_6355, .cells [.int .i64 a0.Op, .int .i64 a0.Lo, .int .i64 a0.Hi, .sl tk_6470 (c_6469.map Node.c)])]]) ([.cap t_6519 4, .cap t_6517 4])) rfl (w_append (objs := List.flatten [[(ob_6353, .cells [.int .i64 a0.Op, .int .i64 a0.Lo, .int .i64 a0.Hi, .sl .fz (a0.Kids.map Node.c)])], [(ob_6354, .cells [.int .i64 0, .int .i64 0, .int .i64 0, .sl .nl []])], [(ob_6355, .cells [.int .i64 a0.Op, .int .i64 a0.Lo, .int .i64 a0.Hi, .sl tk_6470 (c_6469.map Node.c)])]]) (tks := [.cap t_6517 4, tk_6470]) (i := 1) rfl el40 rfl rfl hg_6471 rfl (elemsOK_map Node.c_ok _) (by have := room_some hr_6518; simpa using this) (Nat.le_of_ble_eq_true rfl) (fun t => ⟨t, by simp only [List.map_append, List.map_nil, List.nil_append], rfl⟩)) (.inl rfl) (by kernel_rfl) rfl ?_
            rintro _ _ ⟨t_6519, rfl, rfl⟩
            refine VA.t (i := 10) (v := .ptr ob_6355 3) rfl (t_fieldAddr_ptr rfl fi42_3 rfl rfl) (.inl rfl) (by kernel_rfl) (VA.w (i := 11) (fun v H' => .any = v ∧ H' = hq ([[(ob_6353, .cells [.int .i64 a0.Op, .int .i64 a0.Lo, .int .i64 a0.Hi, .sl .fz (a0.Kids.map Node.c)])], [(ob_6354, .cells [.int .i64 0, .int .i64 0, .int .i64 0, .sl .nl []])], [(ob_6355, .cells [.int .i64 a0.Op, .int .i64 a0.Lo, .int .i64 a0.Hi, .sl (.cap t_6519 4) ((c_6469 ++ ([rv_6515])).map Node.c)])]]) ([.cap t_6519 4, .cap t_6517 4])) rfl (w_store_q (i := 2) rfl sz40 rfl rfl rfl rfl rfl (Nat.le_of_ble_eq_true rfl) ⟨rfl, rfl⟩) (.inl rfl) (by kernel_rfl) rfl ?_)
            rintro _ _ ⟨rfl, rfl⟩
            refine VA.done (by kernel_rfl) (blockQ_normal (thenQ_normal (VW.subK (.c 1 rfl (.c 2 rfl (.c 3 rfl (.c 4 rfl .n)))) rfl (VW.hsub (A := hq ([[(ob_6353, .cells [.int .i64 a0.Op, .int .i64 a0.Lo, .int .i64 a0.Hi, .sl .fz (a0.Kids.map Node.c)])], [(ob_6354, .cells [.int .i64 0, .int .i64 0, .int .i64 0, .sl .nl []])], [(ob_6355, .cells [.int .i64 a0.Op, .int .i64 a0.Lo, .int .i64 a0.Hi, .sl (.cap t_6519 4) ((c_6469 ++ ([rv_6515])).map Node.c)])]]) ([.cap t_6519 4])) (hq_sub (.cons_cons _ (.cons_cons _ (.cons_cons _ .slnil))) (.cons_cons _ (.cons _ .slnil))) (VW.region (VO.t (t_move rfl rfl) rfl rfl (VO.t (v := .int .i64 (w64 (i_6472 + 1))) (t_add rfl rfl (fun _ _ => rfl) rfl) rfl rfl (VO.t (v := .int .i64 (w64 (i_6472 + 1))) (t_assign rfl rfl) rfl rfl (VO.nil ?_)))))))))
            refine thenQ_normal (VL.round ?_)
            refine VW.subK (.c 1 rfl (.c 2 rfl (.c 3 rfl (.c 4 rfl .n)))) rfl ?_
            exact ih_law03_node_l0 _ _ _ _ h _ ob_6353 ob_6354 ob_6355 (.cap t_6519 4) (.inr ⟨_, rfl⟩) hx0
          · obtain ⟨rv_6520, hx_6521, h⟩ := obind h
            refine VA1.w (i := 7) (fun v H' => .agg [.int .i64 rv_6520.Op, .int .i64 rv_6520.Lo, .int .i64 rv_6520.Hi, .sl .fz (rv_6520.Kids.map Node.c)] = v ∧ H' = hq ([[(ob_6353, .cells [.int .i64 a0.Op, .int .i64 a0.Lo, .int .i64 a0.Hi, .sl .fz (a0.Kids.map Node.c)])], [(ob_6354, .cells [.int .i64 0, .int .i64 0, .int .i64 0, .sl .nl []])], [(ob_6355, .cells [.int .i64 a0.Op, .int .i64 a0.Lo, .int .i64 a0.Hi, .sl tk_6470 (c_6469.map Node.c)])]]) ([tk_6470])) rfl (w_call_q (sa := []) (sg := [[(ob_6353, .cells [.int .i64 a0.Op, .int .i64 a0.Lo, .int .i64 a0.Hi, .sl .fz (a0.Kids.map Node.c)])], [(ob_6354, .cells [.int .i64 0, .int .i64 0, .int .i64 0, .sl .nl []])], [(ob_6355, .cells [.int .i64 a0.Op, .int .i64 a0.Lo, .int .i64 a0.Hi, .sl tk_6470 (c_6469.map Node.c)])]]) (tks := [tk_6470]) rfl fn23 rfl ⟨_, _, rfl, rfl, rfl⟩ (ih_law03_node _ _ hx_6521) (by rintro v H' ⟨rfl, rfl⟩; exact ⟨[], rfl, rfl, rfl⟩)) (.inl rfl) rfl ?_
            rintro _ _ ⟨rfl, rfl⟩
            refine VA.alt [1, 8] (by kernel_rfl) rfl ⟨?_, ?_, trivial⟩
            · refine VA1.r (i := 1) (v := .sl tk_6470 (c_6469.map Node.c)) rfl (r_load_q (i := 2) rfl sz40 rfl rfl rfl) (.inl rfl) rfl (VA.w (i := 8) (fun v H' => ∃ t_6522, .sl (.cap t_6522 4) (([rv_6520]).map Node.c) = v ∧ H' = hq ([[(ob_6353, .cells [.int .i64 a0.Op, .int .i64 a0.Lo, .int .i64 a0.Hi, .sl .fz (a0.Kids.map Node.c)])], [(ob_6354, .cells [.int .i64 0, .int .i64 0, .int .i64 0, .sl .nl []])], [(ob_6355, .cells [.int .i64 a0.Op, .int .i64 a0.Lo, .int .i64 a0.Hi, .sl tk_6470 (c_6469.map Node.c)])]]) ([.cap t_6522 4, tk_6470])) rfl (w_buildSlice (l := [[.int .i64 rv_6520.Op, .int .i64 rv_6520.Lo, .int .i64 rv_6520.Hi, .sl .fz (rv_6520.Kids.map Node.c)]]) rfl el40 ⟨rfl, _, _, rfl, rfl, rfl, rfl, rfl⟩ rfl (Nat.le_of_ble_eq_true rfl) (fun tk => ⟨tk, by simp only [List.map_cons, List.map_nil, Node.c_eq], rfl⟩)) (.inl rfl) (by kernel_rfl) rfl ?_)
              rintro _ _ ⟨t_6522, rfl, rfl⟩
              obtain ⟨_, hr_6523, h⟩ := obind h
              refine VA.w (i := 9) (fun v H' => ∃ t_6524, .sl (.cap t_6524 4) ((c_6469 ++ ([rv_6520])).map Node.c) = v ∧ H' = hq ([[(ob_6353, .cells [.int .i64 a0.Op, .int .i64 a0.Lo, .int .i64 a0.Hi, .sl .fz (a0.Kids.map Node.c)])], [(ob_6354, .cells [.int .i64 0, .int .i64 0, .int .i64 0, .sl .nl []])], [(ob_6355, .cells [.int .i64 a0.Op, .int .i64 a0.Lo, .int .i64 a0.Hi, .sl tk_6470 (c_6469.map Node.c)])]]) ([.cap t_6524 4, .cap t_6522 4])) rfl (w_append (objs := List.flatten [[(ob_6353, .cells [.int .i64 a0.Op, .int .i64 a0.Lo, .int .i64 a0.Hi, .sl .fz (a0.Kids.map Node.c)])], [(ob_6354, .cells [.int .i64 0, .int .i64 0, .int .i64 0, .sl .nl []])], [(ob_6355, .cells [.int .i64 a0.Op, .int .i64 a0.Lo, .int .i64 a0.Hi, .sl tk_6470 (c_6469.map Node.c)])]]) (tks := [.cap t_6522 4, tk_6470]) (i := 1) rfl el40 rfl rfl hg_6471 rfl (elemsOK_map Node.c_ok _) (by have := room_some hr_6523; simpa using this) (Nat.le_of_ble_eq_true rfl) (fun t => ⟨t, by simp only [List.map_append, List.map_nil, List.nil_append], rfl⟩)) (.inl rfl) (by kernel_rfl) rfl ?_
              rintro _ _ ⟨t_6524, rfl, rfl⟩
              refine VA.t (i := 10) (v := .ptr ob_6355 3) rfl (t_fieldAddr_ptr rfl fi42_3 rfl rfl) (.inl rfl) (by kernel_rfl) (VA.w (i := 11) (fun v H' => .any = v ∧ H' = hq ([[(ob_6353, .cells [.int .i64 a0.Op, .int .i64 a0.Lo, .int .i64 a0.Hi, .sl .fz (a0.Kids.map Node.c)])], [(ob_6354, .cells [.int .i64 0, .int .i64 0, .int .i64 0, .sl .nl []])], [(ob_6355, .cells [.int .i64 a0.Op, .int .i64 a0.Lo, .int .i64 a0.Hi, .sl (.cap t_6524 4) ((c_6469 ++ ([rv_6520])).map Node.c)])]]) ([.cap t_6524 4, .cap t_6522 4])) rfl (w_store_q (i := 2) rfl sz40 rfl rfl rfl rfl rfl (Nat.le_of_ble_eq_true rfl) ⟨rfl, rfl⟩) (.inl rfl) (by kernel_rfl) rfl ?_)
              rintro _ _ ⟨rfl, rfl⟩
              refine VA.done (by kernel_rfl) (blockQ_normal (thenQ_normal (VW.subK (.c 1 rfl (.c 2 rfl (.c 3 rfl (.c 4 rfl .n)))) rfl (VW.hsub (A := hq ([[(ob_6353, .cells [.int .i64 a0.Op, .int .i64 a0.Lo, .int .i64 a0.Hi, .sl .fz (a0.Kids.map Node.c)])], [(ob_6354, .cells [.int .i64 0, .int .i64 0, .int .i64 0, .sl .nl []])], [(ob_6355, .cells [.int .i64 a0.Op, .int .i64 a0.Lo, .int .i64 a0.Hi, .sl (.cap t_6524 4) ((c_6469 ++ ([rv_6520])).map Node.c)])]]) ([.cap t_6524 4])) (hq_sub (.cons_cons _ (.cons_cons _ (.cons_cons _ .slnil))) (.cons_cons _ (.cons _ .slnil))) (VW.region (VO.t (t_move rfl rfl) rfl rfl (VO.t (v := .int .i64 (w64 (i_6472 + 1))) (t_add rfl rfl (fun _ _ => rfl) rfl) rfl rfl (VO.t (v := .int .i64 (w64 (i_6472 + 1))) (t_assign rfl rfl) rfl rfl (VO.nil ?_)))))))))
              refine thenQ_normal (VL.round ?_)
              refine VW.subK (.c 1 rfl (.c 2 rfl (.c 3 rfl (.c 4 rfl .n)))) rfl ?_
              exact ih_law03_node_l0 _ _ _ _ h _ ob_6353 ob_6354 ob_6355 (.cap t_6524 4) (.inr ⟨_, rfl⟩) hx0
            · refine VA1.w (i := 8) (fun v H' => ∃ t_6525, .sl (.cap t_6525 4) (([rv_6520]).map Node.c) = v ∧ H' = hq ([[(ob_6353, .cells [.int .i64 a0.Op, .int .i64 a0.Lo, .int .i64 a0.Hi, .sl .fz (a0.Kids.map Node.c)])], [(ob_6354, .cells [.int .i64 0, .int .i64 0, .int .i64 0, .sl .nl []])], [(ob_6355, .cells [.int .i64 a0.Op, .int .i64 a0.Lo, .int .i64 a0.Hi, .sl tk_6470 (c_6469.map Node.c)])]]) ([.cap t_6525 4, tk_6470])) rfl (w_buildSlice (l := [[.int .i64 rv_6520.Op, .int .i64 rv_6520.Lo, .int .i64 rv_6520.Hi, .sl .fz (rv_6520.Kids.map Node.c)]]) rfl el40 ⟨rfl, _, _, rfl, rfl, rfl, rfl, rfl⟩ rfl (Nat.le_of_ble_eq_true rfl) (fun tk => ⟨tk, by simp only [List.map_cons, List.map_nil, Node.c_eq], rfl⟩)) (.inl rfl) rfl ?_
              rintro _ _ ⟨t_6525, rfl, rfl⟩
              refine VA.phase (g := 3) [1] 1 (VP.take (i := 1) (v := .sl tk_6470 (c_6469.map Node.c)) rfl (r_load_q (i := 2) rfl sz40 rfl rfl rfl) (.inl rfl) (by kernel_rfl) (VP.done (by kernel_rfl) ?_))
              obtain ⟨_, hr_6526, h⟩ := obind h
              refine VA.w (i := 9) (fun v H' => ∃ t_6527, .sl (.cap t_6527 4) ((c_6469 ++ ([rv_6520])).map Node.c) = v ∧ H' = hq ([[(ob_6353, .cells [.int .i64 a0.Op, .int .i64 a0.Lo, .int .i64 a0.Hi, .sl .fz (a0.Kids.map Node.c)])], [(ob_6354, .cells [.int .i64 0, .int .i64 0, .int .i64 0, .sl .nl []])], [(ob_6355, .cells [.int .i64 a0.Op, .int .i64 a0.Lo, .int .i64 a0.Hi, .sl tk_6470 (c_6469.map Node.c)])]]) ([.cap t_6527 4, .cap t_6525 4])) rfl (w_append (objs := List.flatten [[(ob_6353, .cells [.int .i64 a0.Op, .int .i64 a0.Lo, .int .i64 a0.Hi, .sl .fz (a0.Kids.map Node.c)])], [(ob_6354, .cells [.int .i64 0, .int .i64 0, .int .i64 0, .sl .nl []])], [(ob_6355, .cells [.int .i64 a0.Op, .int .i64 a0.Lo, .int .i64 a0.Hi, .sl tk_6470 (c_6469.map Node.c)])]]) (tks := [.cap t_6525 4, tk_6470]) (i := 1) rfl el40 rfl rfl hg_6471 rfl (elemsOK_map Node.c_ok _) (by have := room_some hr_6526; simpa using this) (Nat.le_of_ble_eq_true rfl) (fun t => ⟨t, by simp only [List.map_append, List.map_nil, List.nil_append], rfl⟩)) (.inl rfl) (by kernel_rfl) rfl ?_
              rintro _ _ ⟨t_6527, rfl, rfl⟩
              refine VA.t (i := 10) (v := .ptr ob_6355 3) rfl (t_fieldAddr_ptr rfl fi42_3 rfl rfl) (.inl rfl) (by kernel_rfl) (VA.w (i := 11) (fun v H' => .any = v ∧ H' = hq ([[(ob_6353, .cells [.int .i64 a0.Op, .int .i64 a0.Lo, .int .i64 a0.Hi, .sl .fz (a0.Kids.map Node.c)])], [(ob_6354, .cells [.int .i64 0, .int .i64 0, .int .i64 0, .sl .nl []])], [(ob_6355, .cells [.int .i64 a0.Op, .int .i64 a0.Lo, .int .i64 a0.Hi, .sl (.cap t_6527 4) ((c_6469 ++ ([rv_6520])).map Node.c)])]]) ([.cap t_6527 4, .cap t_6525 4])) rfl (w_store_q (i := 2) rfl sz40 rfl rfl rfl rfl rfl (Nat.le_of_ble_eq_true rfl) ⟨rfl, rfl⟩) (.inl rfl) (by kernel_rfl) rfl ?_)
              rintro _ _ ⟨rfl, rfl⟩
              refine VA.done (by kernel_rfl) (blockQ_normal (thenQ_normal (VW.subK (.c 1 rfl (.c 2 rfl (.c 3 rfl (.c 4 rfl .n)))) rfl (VW.hsub (A := hq ([[(ob_6353, .cells [.int .i64 a0.Op, .int .i64 a0.Lo, .int .i64 a0.Hi, .sl .fz (a0.Kids.map Node.c)])], [(ob_6354, .cells [.int .i64 0, .int .i64 0, .int .i64 0, .sl .nl []])], [(ob_6355, .cells [.int .i64 a0.Op, .int .i64 a0.Lo, .int .i64 a0.Hi, .sl (.cap t_6527 4) ((c_6469 ++ ([rv_6520])).map Node.c)])]]) ([.cap t_6527 4])) (hq_sub (.cons_cons _ (.cons_cons _ (.cons_cons _ .slnil))) (.cons_cons _ (.cons _ .slnil))) (VW.region (VO.t (t_move rfl rfl) rfl rfl (VO.t (v := .int .i64 (w64 (i_6472 + 1))) (t_add rfl rfl (fun _ _ => rfl) rfl) rfl rfl (VO.t (v := .int .i64 (w64 (i_6472 + 1))) (t_assign rfl rfl) rfl rfl (VO.nil ?_)))))))))
              refine thenQ_normal (VL.round ?_)
              refine VW.subK (.c 1 rfl (.c 2 rfl (.c 3 rfl (.c 4 rfl .n)))) rfl ?_
              exact ih_law03_node_l0 _ _ _ _ h _ ob_6353 ob_6354 ob_6355 (.cap t_6527 4) (.inr ⟨_, rfl⟩) hx0
    · replace h := iteF h hc_6502
      refine VW.subK (.c 2 rfl (.c 3 rfl .n)) rfl (VW.frontS 2 rfl (VW.frontS 2 rfl (VW.hsub (A := hq ([[(ob_6354, .cells [.int .i64 0, .int .i64 0, .int .i64 0, .sl .nl []])], [(ob_6355, .cells [.int .i64 a0.Op, .int .i64 a0.Lo, .int .i64 a0.Hi, .sl tk_6470 (c_6469.map Node.c)])]]) ([tk_6470])) (hq_sub (.cons_cons _ (.cons_cons _ (.cons _ .slnil))) (.cons_cons _ .slnil)) (VW.exit (thenQ_exit (thenQ_exit ?_))))))
      have h := Option.some.inj h
      subst h
      exact hx0 _ tk_6470 rfl hg_6471
  · intro _ ih_law03_node_l0 a0 r h 
    refine VCalls.of_cell 31 2 42 Try.func23 rfl rfl rfl (Nat.le_of_ble_eq_true rfl) (VW.subK (.c 0 rfl .n) rfl (VW.seq (VW.region (VO.w (fun v H' => ∃ ob_6353, .ptr ob_6353 0 = v ∧ H' = hq ([[(ob_6353, .cells [.int .i64 a0.Op, .int .i64 a0.Lo, .int .i64 a0.Hi, .sl .fz (a0.Kids.map Node.c)])]]) []) (w_box_q rfl rfl rfl (fun ob => ⟨ob, rfl, rfl⟩)) rfl rfl ?_))))
    rintro _ _ ⟨ob_6353, rfl, rfl⟩
    refine VO.w (fun v H' => ∃ ob_6354, .ptr ob_6354 0 = v ∧ H' = hq ([[(ob_6354, .cells [.int .i64 0, .int .i64 0, .int .i64 0, .sl .nl []])], [(ob_6353, .cells [.int .i64 a0.Op, .int .i64 a0.Lo, .int .i64 a0.Hi, .sl .fz (a0.Kids.map Node.c)])]]) []) (w_alloc_q rfl zt42 (fun ob => ⟨ob, rfl, rfl⟩)) rfl rfl ?_
    rintro _ _ ⟨ob_6354, rfl, rfl⟩
    refine VO.nil (thenQ_normal (VW.subK (.c 1 rfl (.c 2 rfl .n)) rfl (VW.seq (VW.region (VO.t (v := .ptr ob_6353 0) (t_fieldAddr_ptr rfl fi36_0 rfl rfl) rfl rfl (VO.r (v := .int .i64 a0.Op) (r_load_q (i := 1) rfl sz3 rfl rfl rfl) rfl rfl (VO.t (v := .ptr ob_6353 1) (t_fieldAddr_ptr rfl fi36_1 rfl rfl) rfl rfl (VO.r (v := .int .i64 a0.Lo) (r_load_q (i := 1) rfl sz3 rfl rfl rfl) rfl rfl (VO.t (v := .ptr ob_6353 2) (t_fieldAddr_ptr rfl fi36_2 rfl rfl) rfl rfl ?_)))))))))
    refine VO.r (v := .int .i64 a0.Hi) (r_load_q (i := 1) rfl sz3 rfl rfl rfl) rfl rfl (VO.t (v := .agg [.int .i64 a0.Op, .int .i64 a0.Lo, .int .i64 a0.Hi, .sl .nl []]) (t_build rfl st42 ⟨_, _, rfl, rfl, rfl, _, _, rfl, rfl, rfl, _, _, rfl, rfl, rfl, rfl⟩ rfl) rfl rfl (VO.w (fun v H' => ∃ ob_6355, .ptr ob_6355 0 = v ∧ H' = hq ([[(ob_6355, .cells [.int .i64 0, .int .i64 0, .int .i64 0, .sl .nl []])], [(ob_6354, .cells [.int .i64 0, .int .i64 0, .int .i64 0, .sl .nl []])], [(ob_6353, .cells [.int .i64 a0.Op, .int .i64 a0.Lo, .int .i64 a0.Hi, .sl .fz (a0.Kids.map Node.c)])]]) []) (w_alloc_q rfl zt42 (fun ob => ⟨ob, rfl, rfl⟩)) rfl rfl ?_))
    rintro _ _ ⟨ob_6355, rfl, rfl⟩
    refine VO.w (fun v H' => .any = v ∧ H' = hq ([[(ob_6355, .cells [.int .i64 a0.Op, .int .i64 a0.Lo, .int .i64 a0.Hi, .sl .nl []])], [(ob_6354, .cells [.int .i64 0, .int .i64 0, .int .i64 0, .sl .nl []])], [(ob_6353, .cells [.int .i64 a0.Op, .int .i64 a0.Lo, .int .i64 a0.Hi, .sl .fz (a0.Kids.map Node.c)])]]) []) (w_store_q (i := 0) rfl sz42 rfl rfl rfl rfl rfl (Nat.le_of_ble_eq_true rfl) ⟨rfl, rfl⟩) rfl rfl ?_
    rintro _ _ ⟨rfl, rfl⟩
    refine VO.nil (thenQ_normal (VW.subK (.c 1 rfl (.c 2 rfl (.c 3 rfl .n))) rfl (VW.seq (VW.seq (VW.region (VO.t (v := .int .i64 0) (t_assign rfl (fun _ _ => rfl)) rfl rfl (VO.nil (thenQ_normal (VW.block ?_)))))))))
    refine VW.subK (.c 1 rfl (.c 2 rfl (.c 3 rfl (.c 4 rfl .n)))) rfl (VW.frontS 0 rfl (VW.frontS 1 rfl (VW.frontS 2 rfl (VW.eqv (A := hq ([[(ob_6353, .cells [.int .i64 a0.Op, .int .i64 a0.Lo, .int .i64 a0.Hi, .sl .fz (a0.Kids.map Node.c)])], [(ob_6354, .cells [.int .i64 0, .int .i64 0, .int .i64 0, .sl .nl []])], [(ob_6355, .cells [.int .i64 a0.Op, .int .i64 a0.Lo, .int .i64 a0.Hi, .sl .nl []])]]) ([.nl])) (.refl _) ?_))))
    obtain ⟨o_6528, hx_6529, h⟩ := obind h
    refine VW.loopL (ih_law03_node_l0 _ _ _ _ hx_6529 _ ob_6353 ob_6354 ob_6355 .nl (.inl ⟨rfl, rfl⟩) ?_)
    · intro c_6499 tk_6500 ho_ hg_6501
      subst ho_
      try dsimp only at h
      refine blockQ_hit (thenQ_normal (VW.seq (VW.region (VO.r (v := .agg [.int .i64 a0.Op, .int .i64 a0.Lo, .int .i64 a0.Hi, .sl tk_6500 (c_6499.map Node.c)]) (r_load_q (i := 1) rfl sz42 rfl rfl rfl) rfl rfl (VO.w (fun v H' => .any = v ∧ H' = hq ([[(ob_6354, .cells [.int .i64 a0.Op, .int .i64 a0.Lo, .int .i64 a0.Hi, .sl tk_6500 (c_6499.map Node.c)])], [(ob_6355, .cells [.int .i64 a0.Op, .int .i64 a0.Lo, .int .i64 a0.Hi, .sl tk_6500 (c_6499.map Node.c)])]]) ([tk_6500])) (w_store_q (i := 0) rfl sz42 rfl rfl rfl rfl rfl (Nat.le_of_ble_eq_true rfl) ⟨rfl, rfl⟩) rfl rfl ?_)))))
      rintro _ _ ⟨rfl, rfl⟩
      refine VO.nil (thenQ_normal (VW.subK (.c 2 rfl .n) rfl (VW.hsub (A := hq ([[(ob_6354, .cells [.int .i64 a0.Op, .int .i64 a0.Lo, .int .i64 a0.Hi, .sl tk_6500 (c_6499.map Node.c)])]]) ([tk_6500])) (hq_sub (.cons_cons _ (.cons _ .slnil)) (.cons_cons _ .slnil)) (VW.ret ?_))))
      have h := Option.some.inj h
      subst h
      exact ⟨.inr rfl, rfl, _, _, 0, _, _, _, _, .agg [.int .i64 ((Node.mk a0.Op a0.Lo a0.Hi c_6499).Op), .int .i64 ((Node.mk a0.Op a0.Lo a0.Hi c_6499).Lo), .int .i64 ((Node.mk a0.Op a0.Lo a0.Hi c_6499).Hi), .sl .fz (((Node.mk a0.Op a0.Lo a0.Hi c_6499).Kids).map Node.c)], hq [] [], rfl, rfl, sz42, rfl, VLe.agg ⟨VLe.refl _, VLe.refl _, VLe.refl _, VLe.sl _ _, trivial⟩, hq_sub (.cons _ .slnil) (.cons _ .slnil), rfl, rfl⟩

theorem slices_IndexFunc_2int2int.l0_ok (a1 : Pr → Option Bool) (a0 : List Pr) (a1_f : Nat) (a1_a a1_c : List VV) (a1_g : Seg) (a1_k : FnOK Try.prog a1_f) (a1_h : ∀ (y0 : Pr) (z : Bool), a1 y0 = some z → VCalls Try.prog a1_f (a1_a ++ [.agg [.int .i64 y0.x0, .int .i64 y0.x1]] ++ a1_c) (hq [a1_g] []) (fun v H => .bool z = v ∧ H = hq [a1_g] [])) {Q : Exit → Env → HH → Prop} :
    ∀ (x_6554 : Int) (o : Unit ⊕ Int), PL.slices_IndexFunc_2int2int.l0 a1 a0 x_6554 = some o →
    ∀ (hx0 : Sum.inl () = o → Q (.exit 0) ⟨[], []⟩ (hq ([a1_g]) [])) (hx1 : ∀ (x_6560 : Int), Sum.inr x_6560 = o → Q .ret ⟨[(4, .int .i64 x_6560)], []⟩ (hq ([a1_g]) [])), VW Try.prog 19 (codeAt [1, 0, 1, 0, 0] (bodyOf Try.f53)) (thenQ (VL Try.prog 19 (codeAt [1, 0, 1, 0, 0] (bodyOf Try.f53)) Q) Q) ⟨[(0, .sl .fz (a0.map Pr.c)), (1, .func (.func a1_f) a1_a a1_c), (7, .int .i64 (a0.length : Int)), (8, .int .i64 x_6554)], []⟩ (hq ([a1_g]) []) := by
  refine PL.slices_IndexFunc_2int2int.l0.partial_correctness a1 a0 (motive := fun x_6554 o => ∀ (hx0 : Sum.inl () = o → Q (.exit 0) ⟨[], []⟩ (hq ([a1_g]) [])) (hx1 : ∀ (x_6560 : Int), Sum.inr x_6560 = o → Q .ret ⟨[(4, .int .i64 x_6560)], []⟩ (hq ([a1_g]) [])), VW Try.prog 19 (codeAt [1, 0, 1, 0, 0] (bodyOf Try.f53)) (thenQ (VL Try.prog 19 (codeAt [1, 0, 1, 0, 0] (bodyOf Try.f53)) Q) Q) ⟨[(0, .sl .fz (a0.map Pr.c)), (1, .func (.func a1_f) a1_a a1_c), (7, .int .i64 (a0.length : Int)), (8, .int .i64 x_6554)], []⟩ (hq ([a1_g]) [])) ?_
  intro _ ih x_6554 o h hx0 hx1
  refine VW.seq (VW.region (VO.t (v := .bool (decide (x_6554 < (a0.length : Int)))) (t_cmp rfl rfl rfl rfl rfl) rfl rfl (VO.nil (thenQ_normal (VW.seq ?_)))))
  refine VW.cond (b := (decide (x_6554 < (a0.length : Int)))) rfl (fun hc_6561 => ?_) (fun hc_6561 => ?_)
  · replace h := iteT h hc_6561
    refine VW.skip (thenQ_normal (VW.subK (.c 0 rfl (.c 1 rfl (.c 7 rfl (.c 8 rfl .n)))) rfl (VW.seq (VW.block (VW.seq (VW.region (VO.t (t_move rfl rfl) rfl rfl (VO.t (v := .int .i64 x_6554) (t_assign rfl rfl) rfl rfl (VO.nil ?_)))))))))
    refine thenQ_normal (VW.subK (.c 0 rfl (.c 1 rfl (.c 7 rfl (.c 8 rfl (.c 5 rfl .n))))) rfl (VW.seq (VW.region (VO.t (t_move rfl rfl) rfl rfl (VO.t (t_move rfl rfl) rfl rfl (VO.t (t_move rfl rfl) rfl rfl ?_))))))
    obtain ⟨c_6562, hc_6562, h⟩ := obind h
    refine VO.t (v := .vptr [.int .i64 c_6562.x0, .int .i64 c_6562.x1]) (t_indexAddr rfl sl22 rfl rfl (getI_some hc_6562).1 (map_get (getI_some hc_6562).2 (Pr.c_eq c_6562)) rfl) rfl rfl (VO.r (v := .agg [.int .i64 c_6562.x0, .int .i64 c_6562.x1]) (r_load_v rfl sz49 rfl rfl) rfl rfl ?_)
    obtain ⟨rv_6563, hx_6564, h⟩ := obind h
    refine VO.w (fun v H' => .bool rv_6563 = v ∧ H' = hq ([a1_g]) []) (w_call_q (sa := [a1_g]) (sg := []) (tks := []) rfl a1_k rfl ⟨_, _, rfl, rfl, rfl⟩ (a1_h _ _ hx_6564) (by rintro v H' ⟨rfl, rfl⟩; exact ⟨[a1_g], rfl, rfl, rfl⟩)) rfl rfl ?_
    rintro _ _ ⟨rfl, rfl⟩
    refine VO.nil (thenQ_normal (VW.subK (.c 0 rfl (.c 1 rfl (.c 7 rfl (.c 8 rfl (.c 5 rfl (.c 16 rfl .n)))))) rfl ?_))
    refine VW.cond (b := rv_6563) rfl (fun hc_6565 => ?_) (fun hc_6565 => ?_)
    · replace h := iteT h hc_6565
      refine VW.seq (VW.region (VO.t (t_move rfl rfl) rfl rfl (VO.t (v := .int .i64 x_6554) (t_assign rfl rfl) rfl rfl (VO.nil (thenQ_normal (VW.subK (.c 4 rfl .n) rfl (VW.subK (.c 4 rfl .n) rfl (VW.ret (blockQ_ret ?_)))))))))
      refine thenQ_ret (thenQ_ret ?_)
      have h := Option.some.inj h
      subst h
      exact hx1 _ rfl
    · replace h := iteF h hc_6565
      refine VW.skip (blockQ_normal (thenQ_normal (VW.subK (.c 0 rfl (.c 1 rfl (.c 7 rfl (.c 8 rfl .n)))) rfl (VW.region (VO.t (v := .int .i64 (w64 (x_6554 + 1))) (t_add rfl rfl (fun _ _ => rfl) rfl) rfl rfl (VO.t (t_move rfl rfl) rfl rfl (VO.nil (thenQ_normal (VL.round ?_)))))))))
      refine VW.subK (.c 0 rfl (.c 1 rfl (.c 7 rfl (.c 8 rfl .n)))) rfl ?_
      exact ih _ _ h hx0 hx1
  · replace h := iteF h hc_6561
    refine VW.subN (t' := []) trivial rfl (VW.exit (thenQ_exit (thenQ_exit ?_)))
    have h := Option.some.inj h
    subst h
    exact hx0  rfl

theorem slices_IndexFunc_2int2int_ok (a0 : List Pr) (a1 : Pr → Option Bool) (r : Int) (h : PL.slices_IndexFunc_2int2int a0 a1 = some r) (a1_f : Nat) (a1_a : List VV) (a1_c : List VV) (a1_g : Seg) (a1_k : FnOK Try.prog a1_f) (a1_h : ∀ (y0 : Pr) (z : Bool), a1 y0 = some z → VCalls Try.prog a1_f (a1_a ++ [.agg [.int .i64 y0.x0, .int .i64 y0.x1]] ++ a1_c) (hq [a1_g] []) (fun v H => .bool z = v ∧ H = hq [a1_g] [])) :
    VCalls Try.prog 53 [.sl .fz (a0.map Pr.c), .func (.func a1_f) a1_a a1_c] (hq [a1_g] []) (fun v H => .int .i64 r = v ∧ H = hq [a1_g] []) := by
  unfold PL.slices_IndexFunc_2int2int at h
  refine VCalls.of_body 19 [4] Try.func53 rfl rfl rfl (Nat.le_of_ble_eq_true rfl) (VW.subK (.c 0 rfl (.c 1 rfl .n)) rfl (VW.seq (VW.region (VO.t (v := .int .i64 0) (t_assign rfl (fun _ _ => rfl)) rfl rfl (VO.nil (thenQ_normal (VW.subK (.c 0 rfl (.c 1 rfl .n)) rfl (VW.seq (VW.seq ?_)))))))))
  refine VW.region (VO.t (t_move rfl rfl) rfl rfl (VO.t (v := .int .i64 (a0.length : Int)) (t_len rfl ⟨_, Try.underlying22⟩ rfl (by rw [List.length_map])) rfl rfl (VO.t (v := .int .i64 0) (t_move rfl (fun _ _ => rfl)) rfl rfl (VO.nil (thenQ_normal (VW.subK (.c 0 rfl (.c 1 rfl (.c 7 rfl (.c 8 rfl .n)))) rfl (VW.block (VW.subK (.c 0 rfl (.c 1 rfl (.c 7 rfl (.c 8 rfl .n)))) rfl ?_))))))))
  obtain ⟨o_6566, hx_6567, h⟩ := obind h
  refine VW.loopL (slices_IndexFunc_2int2int.l0_ok a1 a0 a1_f a1_a a1_c a1_g a1_k a1_h _ _ hx_6567 ?_ ?_)
  · intro ho_
    subst ho_
    try dsimp only at h
    refine blockQ_hit (thenQ_normal (VW.seq (VW.region (VO.t (v := .int .i64 (-1)) (t_assign rfl (fun _ _ => rfl)) rfl rfl (VO.nil (thenQ_normal (VW.ret ?_)))))))
    have h := Option.some.inj h
    subst h
    exact ⟨.inr rfl, rfl, _, .int .i64 (-1), hq [a1_g] [], rfl, VLe.refl _, hq_sub (.cons_cons _ .slnil) .slnil, rfl, rfl⟩
  · intro x_6560 ho_
    subst ho_
    try dsimp only at h
    refine blockQ_ret (thenQ_ret ?_)
    have h := Option.some.inj h
    subst h
    exact ⟨.inr rfl, rfl, _, .int .i64 x_6560, hq [a1_g] [], rfl, VLe.refl _, hq_sub (.cons_cons _ .slnil) .slnil, rfl, rfl⟩

theorem slices_ContainsFunc_2int2int_ok (a0 : List Pr) (a1 : Pr → Option Bool) (r : Bool) (h : PL.slices_ContainsFunc_2int2int a0 a1 = some r) (a1_f : Nat) (a1_a : List VV) (a1_c : List VV) (a1_g : Seg) (a1_k : FnOK Try.prog a1_f) (a1_h : ∀ (y0 : Pr) (z : Bool), a1 y0 = some z → VCalls Try.prog a1_f (a1_a ++ [.agg [.int .i64 y0.x0, .int .i64 y0.x1]] ++ a1_c) (hq [a1_g] []) (fun v H => .bool z = v ∧ H = hq [a1_g] [])) :
    VCalls Try.prog 41 [.sl .fz (a0.map Pr.c), .func (.func a1_f) a1_a a1_c] (hq [a1_g] []) (fun v H => .bool r = v ∧ H = hq [a1_g] []) := by
  unfold PL.slices_ContainsFunc_2int2int at h
  refine VCalls.of_body 9 [4] Try.func41 rfl rfl rfl (Nat.le_of_ble_eq_true rfl) (VW.subK (.c 0 rfl (.c 1 rfl .n)) rfl (VW.seq (VW.region (VO.t (v := .bool false) (t_assign rfl (fun _ _ => rfl)) rfl rfl (VO.nil (thenQ_normal (VW.subK (.c 0 rfl (.c 1 rfl .n)) rfl (VW.seq (VW.region ?_)))))))))
  refine VO.t (t_move rfl rfl) rfl rfl (VO.t (t_move rfl rfl) rfl rfl ?_)
  obtain ⟨rv_6568, hx_6569, h⟩ := obind h
  refine VO.w (fun v H' => .int .i64 rv_6568 = v ∧ H' = hq ([a1_g]) []) (w_call_q (sa := [a1_g]) (sg := []) (tks := []) rfl fn53 rfl ⟨_, _, rfl, rfl, _, _, rfl, rfl, rfl⟩ (slices_IndexFunc_2int2int_ok _ _ _ hx_6569 a1_f a1_a a1_c a1_g a1_k a1_h) (by rintro v H' ⟨rfl, rfl⟩; exact ⟨[a1_g], rfl, rfl, rfl⟩)) rfl rfl ?_
  rintro _ _ ⟨rfl, rfl⟩
  refine VO.t (v := .bool (decide (rv_6568 ≥ 0))) (t_cmp rfl rfl rfl (fun _ _ => rfl) rfl) rfl rfl (VO.t (v := .bool (decide (rv_6568 ≥ 0))) (t_assign rfl rfl) rfl rfl (VO.nil (thenQ_normal (VW.subK (.c 4 rfl .n) rfl (VW.ret ?_)))))
  have h := Option.some.inj h
  subst h
  exact ⟨.inr rfl, rfl, _, .bool (decide (rv_6568 ≥ 0)), hq [a1_g] [], rfl, VLe.refl _, hq_sub (.cons_cons _ .slnil) .slnil, rfl, rfl⟩

theorem set_Has_1_ok (a0 : Pr) (c0 : Int) (r : Bool) (h : PL.set_Has_1 a0 c0 = some r) (q0 : Nat) :
    VCalls Try.prog 42 [.agg [.int .i64 a0.x0, .int .i64 a0.x1], .ptr q0 0] (hq [[(q0, .cells [.int .i64 c0])]] []) (fun v H => .bool r = v ∧ H = hq [[(q0, .cells [.int .i64 c0])]] []) := by
  unfold PL.set_Has_1 at h
  refine VCalls.of_body 14 [3] Try.func42 rfl rfl rfl (Nat.le_of_ble_eq_true rfl) (VW.subK (.c 0 rfl (.c 1 rfl .n)) rfl (VW.seq (VW.region (VO.w (fun v H' => ∃ ob_6570, .ptr ob_6570 0 = v ∧ H' = hq ([[(ob_6570, .cells [.int .i64 a0.x0, .int .i64 a0.x1])], [(q0, .cells [.int .i64 c0])]]) []) (w_box_q rfl rfl rfl (fun ob => ⟨ob, rfl, rfl⟩)) rfl rfl ?_))))
  rintro _ _ ⟨ob_6570, rfl, rfl⟩
  refine VO.t (v := .bool false) (t_assign rfl (fun _ _ => rfl)) rfl rfl (VO.nil (thenQ_normal (VW.subK (.c 1 rfl (.c 2 rfl .n)) rfl (VW.seq (VW.region (VO.t (v := .ptr ob_6570 0) (t_indexAddr_parr rfl ar49 rfl (fun _ _ => rfl) (by decide) (by decide) rfl) rfl rfl (VO.r (v := .int .i64 a0.x0) (r_load_q (i := 0) rfl sz3 rfl rfl rfl) rfl rfl (VO.r (v := .int .i64 c0) (r_load_q (i := 1) rfl sz3 rfl rfl rfl) rfl rfl (VO.t (v := .bool (decide (a0.x0 ≤ c0))) (t_cmp rfl rfl rfl rfl rfl) rfl rfl ?_)))))))))
  refine VO.t (t_move rfl rfl) rfl rfl ?_
  refine VO.caseB (d := 8) (b := (decide (a0.x0 ≤ c0))) rfl (fun hc_6571 => ?_) (fun hc_6571 => ?_)
  · replace h := iteT h hc_6571
    refine VO.gr (v := .int .i64 c0) (r_load_q (i := 1) rfl sz3 rfl rfl rfl) rfl rfl rfl rfl (VO.gt (v := .ptr ob_6570 1) (t_indexAddr_parr rfl ar49 rfl (fun _ _ => rfl) (by decide) (by decide) rfl) rfl rfl rfl rfl (VO.gr (v := .int .i64 a0.x1) (r_load_q (i := 0) rfl sz3 rfl rfl rfl) rfl rfl rfl rfl (VO.gt (v := .bool (decide (c0 ≤ a0.x1))) (t_cmp rfl rfl rfl rfl rfl) rfl rfl rfl rfl (VO.t (v := .bool (decide (c0 ≤ a0.x1))) (t_pick (b := true) rfl rfl (fun _ => rfl) (fun h => by cases h)) rfl rfl (VO.t (v := .bool (decide (c0 ≤ a0.x1))) (t_assign rfl rfl) rfl rfl (VO.nil (thenQ_normal (VW.subK (.c 3 rfl .n) rfl (VW.hsub (A := hq ([[(q0, .cells [.int .i64 c0])]]) []) (hq_sub (.cons _ (.cons_cons _ .slnil)) .slnil) ?_)))))))))
    refine VW.ret ?_
    have h := Option.some.inj h
    subst h
    exact ⟨.inr rfl, rfl, _, .bool (decide (c0 ≤ a0.x1)), hq [[(q0, .cells [.int .i64 c0])]] [], rfl, VLe.refl _, hq_sub (.cons_cons _ .slnil) .slnil, rfl, rfl⟩
  · replace h := iteF h hc_6571
    refine VO.gskip rfl rfl rfl rfl rfl (VO.gskip rfl rfl rfl rfl rfl (VO.gskip rfl rfl rfl rfl rfl (VO.gskip rfl rfl rfl rfl rfl (VO.t (v := .bool false) (t_pick (b := false) rfl rfl (fun h => by cases h) (fun _ => (fun _ _ => rfl))) rfl rfl (VO.t (v := .bool false) (t_assign rfl rfl) rfl rfl (VO.nil (thenQ_normal (VW.subK (.c 3 rfl .n) rfl (VW.hsub (A := hq ([[(q0, .cells [.int .i64 c0])]]) []) (hq_sub (.cons _ (.cons_cons _ .slnil)) .slnil) ?_)))))))))
    refine VW.ret ?_
    have h := Option.some.inj h
    subst h
    exact ⟨.inr rfl, rfl, _, .bool false, hq [[(q0, .cells [.int .i64 c0])]] [], rfl, VLe.refl _, hq_sub (.cons_cons _ .slnil) .slnil, rfl, rfl⟩

theorem set_Has_ok (a0 : List Pr) (a1 : Int) (r : Bool × Int) (h : PL.set_Has a0 a1 = some r) :
    VCalls Try.prog 24 [.sl .fz (a0.map Pr.c), .int .i64 a1] (hq [] []) (fun v H => .tup [.bool r.1, .int .i64 r.2] = v ∧ H = hq [] []) := by
  unfold PL.set_Has at h
  refine VCalls.of_body 12 [4, 5] Try.func24 rfl rfl rfl (Nat.le_of_ble_eq_true rfl) (VW.subK (.c 0 rfl (.c 1 rfl .n)) rfl (VW.seq (VW.region (VO.w (fun v H' => ∃ ob_6572, .ptr ob_6572 0 = v ∧ H' = hq ([[(ob_6572, .cells [.int .i64 a1])]]) []) (w_box_q rfl rfl rfl (fun ob => ⟨ob, rfl, rfl⟩)) rfl rfl ?_))))
  rintro _ _ ⟨ob_6572, rfl, rfl⟩
  refine VO.t (v := .bool false) (t_assign rfl (fun _ _ => rfl)) rfl rfl (VO.t (v := .int .i64 0) (t_assign rfl (fun _ _ => rfl)) rfl rfl (VO.nil (thenQ_normal (VW.subK (.c 0 rfl (.c 3 rfl .n)) rfl (VW.seq (VW.seq (VW.region (VO.t (t_move rfl rfl) rfl rfl ?_))))))))
  obtain ⟨rv_6573, hx_6574, h⟩ := obind h
  refine VO.w (fun v H' => .bool rv_6573 = v ∧ H' = hq ([[(ob_6572, .cells [.int .i64 a1])]]) []) (w_call_q (sa := []) (sg := [[(ob_6572, .cells [.int .i64 a1])]]) (tks := []) rfl fn18 rfl ⟨_, _, rfl, rfl, rfl⟩ (set_Valid_ok _ _ hx_6574) (by rintro v H' ⟨rfl, rfl⟩; exact ⟨[], rfl, rfl, rfl⟩)) rfl rfl ?_
  rintro _ _ ⟨rfl, rfl⟩
  refine VO.t (v := .bool (!rv_6573)) (t_not rfl rfl rfl) rfl rfl (VO.nil (thenQ_normal (VW.subK (.c 0 rfl (.c 3 rfl (.c 8 rfl .n))) rfl ?_)))
  refine VW.cond (b := (!rv_6573)) rfl (fun hc_6575 => ?_) (fun hc_6575 => ?_)
  · replace h := iteT h hc_6575
    refine VW.seq (VW.region (VO.t (v := .bool false) (t_assign rfl (fun _ _ => rfl)) rfl rfl (VO.t (v := .int .i64 1) (t_assign rfl (fun _ _ => rfl)) rfl rfl (VO.nil (thenQ_normal (VW.subK (.c 4 rfl (.c 5 rfl .n)) rfl (VW.hsub (A := hq [] []) (hq_sub (.cons _ .slnil) .slnil) (VW.ret (thenQ_ret ?_)))))))))
    have h := Option.some.inj h
    subst h
    exact ⟨.inr rfl, rfl, _, .tup [.bool false, .int .i64 1], hq [] [], ⟨_, _, rfl, rfl, rfl⟩, VLe.tup ⟨VLe.refl _, VLe.refl _, trivial⟩, hq_sub .slnil .slnil, rfl, rfl⟩
  · replace h := iteF h hc_6575
    refine VW.skip (thenQ_normal (VW.subK (.c 0 rfl (.c 3 rfl .n)) rfl (VW.seq (VW.region (VO.t (t_move rfl rfl) rfl rfl (VO.t (v := .func (.func 42) [] [.ptr ob_6572 0]) (t_makeFunc (xs := []) (ys := [_]) rfl rfl ⟨_, _, rfl, rfl, rfl⟩) rfl rfl ?_))))))
    obtain ⟨rv_6576, hx_6577, h⟩ := obind h
    refine VO.w (fun v H' => .bool rv_6576 = v ∧ H' = hq ([[(ob_6572, .cells [.int .i64 a1])]]) []) (w_call_q (sa := [[(ob_6572, .cells [.int .i64 a1])]]) (sg := []) (tks := []) rfl fn41 rfl ⟨_, _, rfl, rfl, _, _, rfl, rfl, rfl⟩ (slices_ContainsFunc_2int2int_ok _ _ _ hx_6577 42 [] [.ptr ob_6572 0] [(ob_6572, .cells [.int .i64 a1])] fn42 (fun y0 z h => set_Has_1_ok y0 a1 z h ob_6572)) (by rintro v H' ⟨rfl, rfl⟩; exact ⟨[[(ob_6572, .cells [.int .i64 a1])]], rfl, rfl, rfl⟩)) rfl rfl ?_
    rintro _ _ ⟨rfl, rfl⟩
    refine VO.t (v := .bool rv_6576) (t_assign rfl rfl) rfl rfl (VO.t (v := .int .i64 0) (t_assign rfl (fun _ _ => rfl)) rfl rfl (VO.nil (thenQ_normal (VW.subK (.c 4 rfl (.c 5 rfl .n)) rfl (VW.hsub (A := hq [] []) (hq_sub (.cons _ .slnil) .slnil) (VW.ret ?_))))))
    have h := Option.some.inj h
    subst h
    exact ⟨.inr rfl, rfl, _, .tup [.bool rv_6576, .int .i64 0], hq [] [], ⟨_, _, rfl, rfl, rfl⟩, VLe.tup ⟨VLe.refl _, VLe.refl _, trivial⟩, hq_sub .slnil .slnil, rfl, rfl⟩

theorem set_root_ok (a0 : Node) (r : Node) (h : PL.set_root a0 = some r) :
    VCalls Try.prog 43 [.agg [.int .i64 a0.Op, .int .i64 a0.Lo, .int .i64 a0.Hi, .sl .fz (a0.Kids.map Node.c)]] (hq [] []) (fun v H => .agg [.int .i64 r.Op, .int .i64 r.Lo, .int .i64 r.Hi, .sl .fz (r.Kids.map Node.c)] = v ∧ H = hq [] []) := by
  revert h
  refine (PL.set_root.l0.mutual_partial_correctness (motive_1 := fun a0 kids_6625 x_6628 o => ∀ (Q : Exit → Env → HH → Prop) (ob_6578 : Nat) (ob_6579 : Nat) (tk_6626 : Tok) (hg_6627 : Tok.grow tk_6626 4 (kids_6625.map Node.c)) (hx0 : ∀ (kids_6637 : List Node) (tk_6638 : Tok), kids_6637 = o → Tok.grow tk_6638 4 (kids_6637.map Node.c) → Q (.exit 0) ⟨[(1, .ptr ob_6578 0), (2, .ptr ob_6579 0), (3, .sl tk_6638 (kids_6637.map Node.c))], []⟩ (hq ([[(ob_6578, .cells [.int .i64 a0.Op, .int .i64 a0.Lo, .int .i64 a0.Hi, .sl .fz (a0.Kids.map Node.c)])], [(ob_6579, .cells [.int .i64 0, .int .i64 0, .int .i64 0, .sl .nl []])]]) ([tk_6638]))), VW Try.prog 30 (codeAt [1, 1, 1, 0, 1, 0, 0] (bodyOf Try.f43)) (thenQ (VL Try.prog 30 (codeAt [1, 1, 1, 0, 1, 0, 0] (bodyOf Try.f43)) Q) Q) ⟨[(1, .ptr ob_6578 0), (2, .ptr ob_6579 0), (3, .sl tk_6626 (kids_6625.map Node.c)), (15, .sl .fz (a0.Kids.map Node.c)), (16, .int .i64 (a0.Kids.length : Int)), (17, .int .i64 x_6628)], []⟩ (hq ([[(ob_6578, .cells [.int .i64 a0.Op, .int .i64 a0.Lo, .int .i64 a0.Hi, .sl .fz (a0.Kids.map Node.c)])], [(ob_6579, .cells [.int .i64 0, .int .i64 0, .int .i64 0, .sl .nl []])]]) ([tk_6626]))) (motive_2 := fun a0 r => VCalls Try.prog 43 [.agg [.int .i64 a0.Op, .int .i64 a0.Lo, .int .i64 a0.Hi, .sl .fz (a0.Kids.map Node.c)]] (hq [] []) (fun v H => .agg [.int .i64 r.Op, .int .i64 r.Lo, .int .i64 r.Hi, .sl .fz (r.Kids.map Node.c)] = v ∧ H = hq [] [])) ?_ ?_).2 a0 r
  · intro _ _ ih_set_root_l0 ih_set_root a0 kids_6625 x_6628 o h Q ob_6578 ob_6579 tk_6626 hg_6627 hx0
    refine VW.seq (VW.region (VO.t (v := .bool (decide (x_6628 < (a0.Kids.length : Int)))) (t_cmp rfl rfl rfl rfl rfl) rfl rfl (VO.nil (thenQ_normal (VW.seq ?_)))))
    refine VW.cond (b := (decide (x_6628 < (a0.Kids.length : Int)))) rfl (fun hc_6640 => ?_) (fun hc_6640 => ?_)
    · replace h := iteT h hc_6640
      refine VW.skip (thenQ_normal (VW.subK (.c 1 rfl (.c 2 rfl (.c 3 rfl (.c 15 rfl (.c 16 rfl (.c 17 rfl .n)))))) rfl (VW.seq (VW.block (VW.seq (VW.region ?_))))))
      obtain ⟨c_6641, hc_6641, h⟩ := obind h
      refine VO.t (v := .vptr [.int .i64 c_6641.Op, .int .i64 c_6641.Lo, .int .i64 c_6641.Hi, .sl .fz (c_6641.Kids.map Node.c)]) (t_indexAddr rfl sl40 rfl rfl (getI_some hc_6641).1 (map_get (getI_some hc_6641).2 (Node.c_eq c_6641)) rfl) rfl rfl (VO.r (v := .agg [.int .i64 c_6641.Op, .int .i64 c_6641.Lo, .int .i64 c_6641.Hi, .sl .fz (c_6641.Kids.map Node.c)]) (r_load_v rfl sz42 rfl rfl) rfl rfl (VO.w (fun v H' => ∃ ob_6642, .ptr ob_6642 0 = v ∧ H' = hq ([[(ob_6642, .cells [.int .i64 0, .int .i64 0, .int .i64 0, .sl .nl []])], [(ob_6578, .cells [.int .i64 a0.Op, .int .i64 a0.Lo, .int .i64 a0.Hi, .sl .fz (a0.Kids.map Node.c)])], [(ob_6579, .cells [.int .i64 0, .int .i64 0, .int .i64 0, .sl .nl []])]]) ([tk_6626])) (w_alloc_q rfl zt42 (fun ob => ⟨ob, rfl, rfl⟩)) rfl rfl ?_))
      rintro _ _ ⟨ob_6642, rfl, rfl⟩
      refine VO.w (fun v H' => .any = v ∧ H' = hq ([[(ob_6642, .cells [.int .i64 c_6641.Op, .int .i64 c_6641.Lo, .int .i64 c_6641.Hi, .sl .fz (c_6641.Kids.map Node.c)])], [(ob_6578, .cells [.int .i64 a0.Op, .int .i64 a0.Lo, .int .i64 a0.Hi, .sl .fz (a0.Kids.map Node.c)])], [(ob_6579, .cells [.int .i64 0, .int .i64 0, .int .i64 0, .sl .nl []])]]) ([tk_6626])) (w_store_q (i := 0) rfl sz42 rfl rfl rfl rfl rfl (Nat.le_of_ble_eq_true rfl) ⟨rfl, rfl⟩) rfl rfl ?_
      rintro _ _ ⟨rfl, rfl⟩
      refine VO.nil (thenQ_normal (VW.subK (.c 1 rfl (.c 2 rfl (.c 3 rfl (.c 15 rfl (.c 16 rfl (.c 17 rfl (.c 5 rfl .n))))))) rfl (VW.region (VO.t (t_move rfl rfl) rfl rfl (VO.r (v := .agg [.int .i64 c_6641.Op, .int .i64 c_6641.Lo, .int .i64 c_6641.Hi, .sl .fz (c_6641.Kids.map Node.c)]) (r_load_q (i := 0) rfl sz42 rfl rfl rfl) rfl rfl ?_)))))
      obtain ⟨rv_6643, hx_6644, h⟩ := obind h
      refine VO.w (fun v H' => .agg [.int .i64 rv_6643.Op, .int .i64 rv_6643.Lo, .int .i64 rv_6643.Hi, .sl .fz (rv_6643.Kids.map Node.c)] = v ∧ H' = hq ([[(ob_6642, .cells [.int .i64 c_6641.Op, .int .i64 c_6641.Lo, .int .i64 c_6641.Hi, .sl .fz (c_6641.Kids.map Node.c)])], [(ob_6578, .cells [.int .i64 a0.Op, .int .i64 a0.Lo, .int .i64 a0.Hi, .sl .fz (a0.Kids.map Node.c)])], [(ob_6579, .cells [.int .i64 0, .int .i64 0, .int .i64 0, .sl .nl []])]]) ([tk_6626])) (w_call_q (sa := []) (sg := [[(ob_6642, .cells [.int .i64 c_6641.Op, .int .i64 c_6641.Lo, .int .i64 c_6641.Hi, .sl .fz (c_6641.Kids.map Node.c)])], [(ob_6578, .cells [.int .i64 a0.Op, .int .i64 a0.Lo, .int .i64 a0.Hi, .sl .fz (a0.Kids.map Node.c)])], [(ob_6579, .cells [.int .i64 0, .int .i64 0, .int .i64 0, .sl .nl []])]]) (tks := [tk_6626]) rfl fn43 rfl ⟨_, _, rfl, rfl, rfl⟩ (ih_set_root _ _ hx_6644) (by rintro v H' ⟨rfl, rfl⟩; exact ⟨[], rfl, rfl, rfl⟩)) rfl rfl ?_
      rintro _ _ ⟨rfl, rfl⟩
      refine VO.w (fun v H' => ∃ t_6645, .sl (.cap t_6645 4) (([rv_6643]).map Node.c) = v ∧ H' = hq ([[(ob_6642, .cells [.int .i64 c_6641.Op, .int .i64 c_6641.Lo, .int .i64 c_6641.Hi, .sl .fz (c_6641.Kids.map Node.c)])], [(ob_6578, .cells [.int .i64 a0.Op, .int .i64 a0.Lo, .int .i64 a0.Hi, .sl .fz (a0.Kids.map Node.c)])], [(ob_6579, .cells [.int .i64 0, .int .i64 0, .int .i64 0, .sl .nl []])]]) ([.cap t_6645 4, tk_6626])) (w_buildSlice (l := [[.int .i64 rv_6643.Op, .int .i64 rv_6643.Lo, .int .i64 rv_6643.Hi, .sl .fz (rv_6643.Kids.map Node.c)]]) rfl el40 ⟨rfl, _, _, rfl, rfl, rfl, rfl, rfl⟩ rfl (Nat.le_of_ble_eq_true rfl) (fun tk => ⟨tk, by simp only [List.map_cons, List.map_nil, Node.c_eq], rfl⟩)) rfl rfl ?_
      rintro _ _ ⟨t_6645, rfl, rfl⟩
      obtain ⟨_, hr_6646, h⟩ := obind h
      refine VO.w (fun v H' => ∃ t_6647, .sl (.cap t_6647 4) ((kids_6625 ++ ([rv_6643])).map Node.c) = v ∧ H' = hq ([[(ob_6642, .cells [.int .i64 c_6641.Op, .int .i64 c_6641.Lo, .int .i64 c_6641.Hi, .sl .fz (c_6641.Kids.map Node.c)])], [(ob_6578, .cells [.int .i64 a0.Op, .int .i64 a0.Lo, .int .i64 a0.Hi, .sl .fz (a0.Kids.map Node.c)])], [(ob_6579, .cells [.int .i64 0, .int .i64 0, .int .i64 0, .sl .nl []])]]) ([.cap t_6647 4, .cap t_6645 4])) (w_append (objs := List.flatten [[(ob_6642, .cells [.int .i64 c_6641.Op, .int .i64 c_6641.Lo, .int .i64 c_6641.Hi, .sl .fz (c_6641.Kids.map Node.c)])], [(ob_6578, .cells [.int .i64 a0.Op, .int .i64 a0.Lo, .int .i64 a0.Hi, .sl .fz (a0.Kids.map Node.c)])], [(ob_6579, .cells [.int .i64 0, .int .i64 0, .int .i64 0, .sl .nl []])]]) (tks := [.cap t_6645 4, tk_6626]) (i := 1) rfl el40 rfl rfl hg_6627 rfl (elemsOK_map Node.c_ok _) (by have := room_some hr_6646; simpa using this) (Nat.le_of_ble_eq_true rfl) (fun t => ⟨t, by simp only [List.map_append, List.map_nil, List.nil_append], rfl⟩)) rfl rfl ?_
      rintro _ _ ⟨t_6647, rfl, rfl⟩
      refine VO.t (v := .sl (.cap t_6647 4) ((kids_6625 ++ ([rv_6643])).map Node.c)) (t_assign rfl rfl) rfl rfl (VO.nil (blockQ_normal (thenQ_normal (VW.subK (.c 1 rfl (.c 2 rfl (.c 15 rfl (.c 16 rfl (.c 17 rfl (.c 3 rfl .n)))))) rfl (VW.hsub (A := hq ([[(ob_6578, .cells [.int .i64 a0.Op, .int .i64 a0.Lo, .int .i64 a0.Hi, .sl .fz (a0.Kids.map Node.c)])], [(ob_6579, .cells [.int .i64 0, .int .i64 0, .int .i64 0, .sl .nl []])]]) ([.cap t_6647 4])) (hq_sub (.cons _ (.cons_cons _ (.cons_cons _ .slnil))) (.cons_cons _ (.cons _ .slnil))) (VW.region (VO.t (v := .int .i64 (w64 (x_6628 + 1))) (t_add rfl rfl (fun _ _ => rfl) rfl) rfl rfl (VO.t (t_move rfl rfl) rfl rfl (VO.nil ?_)))))))))
      refine thenQ_normal (VL.round ?_)
      refine VW.subK (.c 1 rfl (.c 2 rfl (.c 3 rfl (.c 15 rfl (.c 16 rfl (.c 17 rfl .n)))))) rfl ?_
      exact ih_set_root_l0 _ _ _ _ h _ ob_6578 ob_6579 (.cap t_6647 4) (.inr ⟨_, rfl⟩) hx0
    · replace h := iteF h hc_6640
      refine VW.subK (.c 1 rfl (.c 2 rfl (.c 3 rfl .n))) rfl (VW.exit (thenQ_exit (thenQ_exit ?_)))
      have h := Option.some.inj h
      subst h
      exact hx0 _ tk_6626 rfl hg_6627
  · intro _ _ ih_set_root_l0 ih_set_root a0 r h 
    refine VCalls.of_cell 30 2 42 Try.func43 rfl rfl rfl (Nat.le_of_ble_eq_true rfl) (VW.subK (.c 0 rfl .n) rfl (VW.seq (VW.region (VO.w (fun v H' => ∃ ob_6578, .ptr ob_6578 0 = v ∧ H' = hq ([[(ob_6578, .cells [.int .i64 a0.Op, .int .i64 a0.Lo, .int .i64 a0.Hi, .sl .fz (a0.Kids.map Node.c)])]]) []) (w_box_q rfl rfl rfl (fun ob => ⟨ob, rfl, rfl⟩)) rfl rfl ?_))))
    rintro _ _ ⟨ob_6578, rfl, rfl⟩
    refine VO.w (fun v H' => ∃ ob_6579, .ptr ob_6579 0 = v ∧ H' = hq ([[(ob_6579, .cells [.int .i64 0, .int .i64 0, .int .i64 0, .sl .nl []])], [(ob_6578, .cells [.int .i64 a0.Op, .int .i64 a0.Lo, .int .i64 a0.Hi, .sl .fz (a0.Kids.map Node.c)])]]) []) (w_alloc_q rfl zt42 (fun ob => ⟨ob, rfl, rfl⟩)) rfl rfl ?_
    rintro _ _ ⟨ob_6579, rfl, rfl⟩
    refine VO.nil (thenQ_normal (VW.subK (.c 1 rfl (.c 2 rfl .n)) rfl (VW.seq (VW.seq (VW.region (VO.t (v := .ptr ob_6578 0) (t_fieldAddr_ptr rfl fi42_0 rfl rfl) rfl rfl (VO.r (v := .int .i64 a0.Op) (r_load_q (i := 1) rfl sz3 rfl rfl rfl) rfl rfl (VO.t (v := .bool (a0.Op == 5)) (t_cmp rfl rfl rfl (fun _ _ => rfl) rfl) rfl rfl (VO.nil ?_)))))))))
    refine thenQ_normal (VW.subK (.c 1 rfl (.c 2 rfl (.c 8 rfl .n))) rfl ?_)
    refine VW.cond (b := (a0.Op == 5)) rfl (fun hc_6580 => ?_) (fun hc_6580 => ?_)
    · replace h := iteT h hc_6580
      refine VW.seq (VW.region (VO.t (v := .ptr ob_6578 3) (t_fieldAddr_ptr rfl fi42_3 rfl rfl) rfl rfl (VO.r (v := .sl .fz (a0.Kids.map Node.c)) (r_load_q (i := 1) rfl sz40 rfl rfl rfl) rfl rfl ?_)))
      obtain ⟨c_6581, hc_6581, h⟩ := obind h
      refine VO.t (v := .vptr [.int .i64 c_6581.Op, .int .i64 c_6581.Lo, .int .i64 c_6581.Hi, .sl .fz (c_6581.Kids.map Node.c)]) (t_indexAddr rfl sl40 rfl (fun _ _ => rfl) (getI_some hc_6581).1 (map_get (getI_some hc_6581).2 (Node.c_eq c_6581)) rfl) rfl rfl (VO.r (v := .agg [.int .i64 c_6581.Op, .int .i64 c_6581.Lo, .int .i64 c_6581.Hi, .sl .fz (c_6581.Kids.map Node.c)]) (r_load_v rfl sz42 rfl rfl) rfl rfl ?_)
      obtain ⟨rv_6582, hx_6583, h⟩ := obind h
      refine VO.w (fun v H' => .agg [.int .i64 rv_6582.Op, .int .i64 rv_6582.Lo, .int .i64 rv_6582.Hi, .sl .fz (rv_6582.Kids.map Node.c)] = v ∧ H' = hq ([[(ob_6579, .cells [.int .i64 0, .int .i64 0, .int .i64 0, .sl .nl []])], [(ob_6578, .cells [.int .i64 a0.Op, .int .i64 a0.Lo, .int .i64 a0.Hi, .sl .fz (a0.Kids.map Node.c)])]]) []) (w_call_q (sa := []) (sg := [[(ob_6579, .cells [.int .i64 0, .int .i64 0, .int .i64 0, .sl .nl []])], [(ob_6578, .cells [.int .i64 a0.Op, .int .i64 a0.Lo, .int .i64 a0.Hi, .sl .fz (a0.Kids.map Node.c)])]]) (tks := []) rfl fn43 rfl ⟨_, _, rfl, rfl, rfl⟩ (ih_set_root _ _ hx_6583) (by rintro v H' ⟨rfl, rfl⟩; exact ⟨[], rfl, rfl, rfl⟩)) rfl rfl ?_
      rintro _ _ ⟨rfl, rfl⟩
      refine VO.w (fun v H' => .any = v ∧ H' = hq ([[(ob_6579, .cells [.int .i64 rv_6582.Op, .int .i64 rv_6582.Lo, .int .i64 rv_6582.Hi, .sl .fz (rv_6582.Kids.map Node.c)])], [(ob_6578, .cells [.int .i64 a0.Op, .int .i64 a0.Lo, .int .i64 a0.Hi, .sl .fz (a0.Kids.map Node.c)])]]) []) (w_store_q (i := 0) rfl sz42 rfl rfl rfl rfl rfl (Nat.le_of_ble_eq_true rfl) ⟨rfl, rfl⟩) rfl rfl ?_
      rintro _ _ ⟨rfl, rfl⟩
      refine VO.nil (thenQ_normal (VW.subK (.c 2 rfl .n) rfl (VW.hsub (A := hq ([[(ob_6579, .cells [.int .i64 rv_6582.Op, .int .i64 rv_6582.Lo, .int .i64 rv_6582.Hi, .sl .fz (rv_6582.Kids.map Node.c)])]]) []) (hq_sub (.cons_cons _ (.cons _ .slnil)) .slnil) (VW.ret (thenQ_ret ?_)))))
      have h := Option.some.inj h
      subst h
      exact ⟨.inr rfl, rfl, _, _, 0, _, _, _, _, .agg [.int .i64 rv_6582.Op, .int .i64 rv_6582.Lo, .int .i64 rv_6582.Hi, .sl .fz (rv_6582.Kids.map Node.c)], hq [] [], rfl, rfl, sz42, rfl, VLe.refl _, hq_sub (.cons _ .slnil) .slnil, rfl, rfl⟩
    · replace h := iteF h hc_6580
      refine VW.skip (thenQ_normal (VW.subK (.c 1 rfl (.c 2 rfl .n)) rfl (VW.seq (VW.region (VO.t (v := .sl .nl []) (t_assign rfl (fun _ _ => .inl ⟨rfl, .inl rfl⟩)) rfl rfl (VO.nil (thenQ_normal (VW.seq (VW.seq ?_)))))))))
      refine VW.region (VO.t (v := .ptr ob_6578 3) (t_fieldAddr_ptr rfl fi42_3 rfl rfl) rfl rfl (VO.r (v := .sl .fz (a0.Kids.map Node.c)) (r_load_q (i := 1) rfl sz40 rfl rfl rfl) rfl rfl (VO.t (v := .int .i64 (a0.Kids.length : Int)) (t_len rfl ⟨_, Try.underlying40⟩ rfl (by rw [List.length_map])) rfl rfl (VO.t (v := .int .i64 0) (t_move rfl (fun _ _ => rfl)) rfl rfl (VO.nil (thenQ_normal (VW.subK (.c 1 rfl (.c 2 rfl (.c 3 rfl (.c 15 rfl (.c 16 rfl (.c 17 rfl .n)))))) rfl (VW.block (VW.subK (.c 1 rfl (.c 2 rfl (.c 3 rfl (.c 15 rfl (.c 16 rfl (.c 17 rfl .n)))))) rfl ?_)))))))))
      refine VW.frontS 0 rfl (VW.frontS 1 rfl (VW.eqv (A := hq ([[(ob_6578, .cells [.int .i64 a0.Op, .int .i64 a0.Lo, .int .i64 a0.Hi, .sl .fz (a0.Kids.map Node.c)])], [(ob_6579, .cells [.int .i64 0, .int .i64 0, .int .i64 0, .sl .nl []])]]) ([.nl])) (.refl _) ?_))
      obtain ⟨o_6648, hx_6649, h⟩ := obind h
      refine VW.loopL (ih_set_root_l0 _ _ _ _ hx_6649 _ ob_6578 ob_6579 .nl (.inl ⟨rfl, rfl⟩) ?_)
      · intro kids_6637 tk_6638 ho_ hg_6639
        subst ho_
        try dsimp only at h
        refine blockQ_hit (thenQ_normal (VW.seq (VW.region (VO.t (t_move rfl rfl) rfl rfl (VO.t (v := .ptr ob_6578 3) (t_fieldAddr_ptr rfl fi42_3 rfl rfl) rfl rfl (VO.w (fun v H' => .any = v ∧ H' = hq ([[(ob_6578, .cells [.int .i64 a0.Op, .int .i64 a0.Lo, .int .i64 a0.Hi, .sl tk_6638 (kids_6637.map Node.c)])], [(ob_6579, .cells [.int .i64 0, .int .i64 0, .int .i64 0, .sl .nl []])]]) ([tk_6638])) (w_store_q (i := 0) rfl sz40 rfl rfl rfl rfl rfl (Nat.le_of_ble_eq_true rfl) ⟨rfl, rfl⟩) rfl rfl ?_))))))
        rintro _ _ ⟨rfl, rfl⟩
        refine VO.nil (thenQ_normal (VW.subK (.c 1 rfl (.c 2 rfl .n)) rfl (VW.seq (VW.region (VO.r (v := .agg [.int .i64 a0.Op, .int .i64 a0.Lo, .int .i64 a0.Hi, .sl tk_6638 (kids_6637.map Node.c)]) (r_load_q (i := 0) rfl sz42 rfl rfl rfl) rfl rfl (VO.w (fun v H' => .any = v ∧ H' = hq ([[(ob_6578, .cells [.int .i64 a0.Op, .int .i64 a0.Lo, .int .i64 a0.Hi, .sl tk_6638 (kids_6637.map Node.c)])], [(ob_6579, .cells [.int .i64 a0.Op, .int .i64 a0.Lo, .int .i64 a0.Hi, .sl tk_6638 (kids_6637.map Node.c)])]]) ([tk_6638])) (w_store_q (i := 1) rfl sz42 rfl rfl rfl rfl rfl (Nat.le_of_ble_eq_true rfl) ⟨rfl, rfl⟩) rfl rfl ?_))))))
        rintro _ _ ⟨rfl, rfl⟩
        refine VO.nil (thenQ_normal (VW.subK (.c 2 rfl .n) rfl (VW.hsub (A := hq ([[(ob_6579, .cells [.int .i64 a0.Op, .int .i64 a0.Lo, .int .i64 a0.Hi, .sl tk_6638 (kids_6637.map Node.c)])]]) ([tk_6638])) (hq_sub (.cons _ (.cons_cons _ .slnil)) (.cons_cons _ .slnil)) (VW.ret ?_))))
        have h := Option.some.inj h
        subst h
        exact ⟨.inr rfl, rfl, _, _, 0, _, _, _, _, .agg [.int .i64 ((Node.mk a0.Op a0.Lo a0.Hi kids_6637).Op), .int .i64 ((Node.mk a0.Op a0.Lo a0.Hi kids_6637).Lo), .int .i64 ((Node.mk a0.Op a0.Lo a0.Hi kids_6637).Hi), .sl .fz (((Node.mk a0.Op a0.Lo a0.Hi kids_6637).Kids).map Node.c)], hq [] [], rfl, rfl, sz42, rfl, VLe.agg ⟨VLe.refl _, VLe.refl _, VLe.refl _, VLe.sl _ _, trivial⟩, hq_sub (.cons _ .slnil) (.cons _ .slnil), rfl, rfl⟩

theorem set_Root_ok (a0 : Node) (r : Node × Int) (h : PL.set_Root a0 = some r) :
    VCalls Try.prog 26 [.agg [.int .i64 a0.Op, .int .i64 a0.Lo, .int .i64 a0.Hi, .sl .fz (a0.Kids.map Node.c)]] (hq [] []) (fun v H => .tup [.agg [.int .i64 r.1.Op, .int .i64 r.1.Lo, .int .i64 r.1.Hi, .sl .fz (r.1.Kids.map Node.c)], .int .i64 r.2] = v ∧ H = hq [] []) := by
  unfold PL.set_Root at h
  refine VCalls.of_cell2 13 2 42 3 Try.func26 rfl rfl rfl (Nat.le_of_ble_eq_true rfl) (VW.subK (.c 0 rfl .n) rfl (VW.seq (VW.region (VO.w (fun v H' => ∃ ob_6650, .ptr ob_6650 0 = v ∧ H' = hq ([[(ob_6650, .cells [.int .i64 a0.Op, .int .i64 a0.Lo, .int .i64 a0.Hi, .sl .fz (a0.Kids.map Node.c)])]]) []) (w_box_q rfl rfl rfl (fun ob => ⟨ob, rfl, rfl⟩)) rfl rfl ?_))))
  rintro _ _ ⟨ob_6650, rfl, rfl⟩
  refine VO.w (fun v H' => ∃ ob_6651, .ptr ob_6651 0 = v ∧ H' = hq ([[(ob_6651, .cells [.int .i64 0, .int .i64 0, .int .i64 0, .sl .nl []])], [(ob_6650, .cells [.int .i64 a0.Op, .int .i64 a0.Lo, .int .i64 a0.Hi, .sl .fz (a0.Kids.map Node.c)])]]) []) (w_alloc_q rfl zt42 (fun ob => ⟨ob, rfl, rfl⟩)) rfl rfl ?_
  rintro _ _ ⟨ob_6651, rfl, rfl⟩
  refine VO.t (v := .int .i64 0) (t_assign rfl (fun _ _ => rfl)) rfl rfl (VO.nil (thenQ_normal (VW.subK (.c 1 rfl (.c 2 rfl .n)) rfl (VW.seq (VW.seq (VW.region (VO.r (v := .agg [.int .i64 a0.Op, .int .i64 a0.Lo, .int .i64 a0.Hi, .sl .fz (a0.Kids.map Node.c)]) (r_load_q (i := 1) rfl sz42 rfl rfl rfl) rfl rfl ?_)))))))
  obtain ⟨rv_6652, hx_6653, h⟩ := obind h
  refine VO.w (fun v H' => .int .i64 rv_6652 = v ∧ H' = hq ([[(ob_6651, .cells [.int .i64 0, .int .i64 0, .int .i64 0, .sl .nl []])], [(ob_6650, .cells [.int .i64 a0.Op, .int .i64 a0.Lo, .int .i64 a0.Hi, .sl .fz (a0.Kids.map Node.c)])]]) []) (w_call_q (sa := []) (sg := [[(ob_6651, .cells [.int .i64 0, .int .i64 0, .int .i64 0, .sl .nl []])], [(ob_6650, .cells [.int .i64 a0.Op, .int .i64 a0.Lo, .int .i64 a0.Hi, .sl .fz (a0.Kids.map Node.c)])]]) (tks := []) rfl fn38 rfl ⟨_, _, rfl, rfl, rfl⟩ (set_check_ok _ _ hx_6653) (by rintro v H' ⟨rfl, rfl⟩; exact ⟨[], rfl, rfl, rfl⟩)) rfl rfl ?_
  rintro _ _ ⟨rfl, rfl⟩
  refine VO.t (v := .int .i64 rv_6652) (t_assign rfl rfl) rfl rfl (VO.nil (thenQ_normal (VW.subK (.c 1 rfl (.c 2 rfl (.c 4 rfl .n))) rfl (VW.seq (VW.region (VO.t (t_move rfl rfl) rfl rfl (VO.t (v := .bool (rv_6652 != 0)) (t_cmp rfl rfl rfl (fun _ _ => rfl) rfl) rfl rfl (VO.nil (thenQ_normal ?_)))))))))
  refine VW.subK (.c 1 rfl (.c 2 rfl (.c 4 rfl (.c 8 rfl .n)))) rfl ?_
  refine VW.cond (b := (rv_6652 != 0)) rfl (fun hc_6654 => ?_) (fun hc_6654 => ?_)
  · replace h := iteT h hc_6654
    refine VW.seq (VW.region (VO.t (v := .agg [.int .i64 0, .int .i64 0, .int .i64 0, .sl .nl []]) (t_build rfl st42 rfl rfl) rfl rfl (VO.t (t_move rfl rfl) rfl rfl (VO.w (fun v H' => .any = v ∧ H' = hq ([[(ob_6651, .cells [.int .i64 0, .int .i64 0, .int .i64 0, .sl .nl []])], [(ob_6650, .cells [.int .i64 a0.Op, .int .i64 a0.Lo, .int .i64 a0.Hi, .sl .fz (a0.Kids.map Node.c)])]]) []) (w_store_q (i := 0) rfl sz42 rfl rfl rfl rfl rfl (Nat.le_of_ble_eq_true rfl) ⟨rfl, rfl⟩) rfl rfl ?_))))
    rintro _ _ ⟨rfl, rfl⟩
    refine VO.t (v := .int .i64 rv_6652) (t_assign rfl rfl) rfl rfl (VO.nil (thenQ_normal (VW.subK (.c 2 rfl (.c 3 rfl .n)) rfl (VW.hsub (A := hq ([[(ob_6651, .cells [.int .i64 0, .int .i64 0, .int .i64 0, .sl .nl []])]]) []) (hq_sub (.cons_cons _ (.cons _ .slnil)) .slnil) (VW.ret (thenQ_ret ?_))))))
    have h := Option.some.inj h
    subst h
    exact ⟨.inr rfl, rfl, _, _, 0, _, _, _, _, _, .tup [.agg [.int .i64 ((Node.mk 0 0 0 []).Op), .int .i64 ((Node.mk 0 0 0 []).Lo), .int .i64 ((Node.mk 0 0 0 []).Hi), .sl .fz (((Node.mk 0 0 0 []).Kids).map Node.c)], .int .i64 rv_6652], hq [] [], rfl, rfl, sz42, rfl, rfl, VLe.tup ⟨VLe.agg ⟨VLe.refl _, VLe.refl _, VLe.refl _, VLe.sl _ _, trivial⟩, VLe.refl _, trivial⟩, hq_sub (.cons _ .slnil) .slnil, rfl, rfl⟩
  · replace h := iteF h hc_6654
    refine VW.skip (thenQ_normal (VW.subK (.c 1 rfl (.c 2 rfl .n)) rfl (VW.seq (VW.region (VO.r (v := .agg [.int .i64 a0.Op, .int .i64 a0.Lo, .int .i64 a0.Hi, .sl .fz (a0.Kids.map Node.c)]) (r_load_q (i := 1) rfl sz42 rfl rfl rfl) rfl rfl ?_)))))
    obtain ⟨rv_6655, hx_6656, h⟩ := obind h
    refine VO.w (fun v H' => .agg [.int .i64 rv_6655.Op, .int .i64 rv_6655.Lo, .int .i64 rv_6655.Hi, .sl .fz (rv_6655.Kids.map Node.c)] = v ∧ H' = hq ([[(ob_6651, .cells [.int .i64 0, .int .i64 0, .int .i64 0, .sl .nl []])], [(ob_6650, .cells [.int .i64 a0.Op, .int .i64 a0.Lo, .int .i64 a0.Hi, .sl .fz (a0.Kids.map Node.c)])]]) []) (w_call_q (sa := []) (sg := [[(ob_6651, .cells [.int .i64 0, .int .i64 0, .int .i64 0, .sl .nl []])], [(ob_6650, .cells [.int .i64 a0.Op, .int .i64 a0.Lo, .int .i64 a0.Hi, .sl .fz (a0.Kids.map Node.c)])]]) (tks := []) rfl fn43 rfl ⟨_, _, rfl, rfl, rfl⟩ (set_root_ok _ _ hx_6656) (by rintro v H' ⟨rfl, rfl⟩; exact ⟨[], rfl, rfl, rfl⟩)) rfl rfl ?_
    rintro _ _ ⟨rfl, rfl⟩
    refine VO.w (fun v H' => .any = v ∧ H' = hq ([[(ob_6651, .cells [.int .i64 rv_6655.Op, .int .i64 rv_6655.Lo, .int .i64 rv_6655.Hi, .sl .fz (rv_6655.Kids.map Node.c)])], [(ob_6650, .cells [.int .i64 a0.Op, .int .i64 a0.Lo, .int .i64 a0.Hi, .sl .fz (a0.Kids.map Node.c)])]]) []) (w_store_q (i := 0) rfl sz42 rfl rfl rfl rfl rfl (Nat.le_of_ble_eq_true rfl) ⟨rfl, rfl⟩) rfl rfl ?_
    rintro _ _ ⟨rfl, rfl⟩
    refine VO.t (v := .int .i64 0) (t_assign rfl (fun _ _ => rfl)) rfl rfl (VO.nil (thenQ_normal (VW.subK (.c 2 rfl (.c 3 rfl .n)) rfl (VW.hsub (A := hq ([[(ob_6651, .cells [.int .i64 rv_6655.Op, .int .i64 rv_6655.Lo, .int .i64 rv_6655.Hi, .sl .fz (rv_6655.Kids.map Node.c)])]]) []) (hq_sub (.cons_cons _ (.cons _ .slnil)) .slnil) (VW.ret ?_)))))
    have h := Option.some.inj h
    subst h
    exact ⟨.inr rfl, rfl, _, _, 0, _, _, _, _, _, .tup [.agg [.int .i64 rv_6655.Op, .int .i64 rv_6655.Lo, .int .i64 rv_6655.Hi, .sl .fz (rv_6655.Kids.map Node.c)], .int .i64 0], hq [] [], rfl, rfl, sz42, rfl, rfl, VLe.tup ⟨VLe.refl _, VLe.refl _, trivial⟩, hq_sub (.cons _ .slnil) .slnil, rfl, rfl⟩

theorem law03_SetMeans_ok (a0 : Node) (a1 : Int) (r : Bool) (h : PL.law03_SetMeans a0 a1 = some r) :
    VCalls Try.prog 4 [.agg [.int .i64 a0.Op, .int .i64 a0.Lo, .int .i64 a0.Hi, .sl .fz (a0.Kids.map Node.c)], .int .i64 a1] (hq [] []) (fun v H => .bool r = v ∧ H = hq [] []) := by
  unfold PL.law03_SetMeans at h
  refine VCalls.of_body 69 [4] Try.func4 rfl rfl rfl (Nat.le_of_ble_eq_true rfl) (VW.subK (.c 0 rfl (.c 1 rfl .n)) rfl (VW.seq (VW.region (VO.w (fun v H' => ∃ ob_6657, .ptr ob_6657 0 = v ∧ H' = hq ([[(ob_6657, .cells [.int .i64 a0.Op, .int .i64 a0.Lo, .int .i64 a0.Hi, .sl .fz (a0.Kids.map Node.c)])]]) []) (w_box_q rfl rfl rfl (fun ob => ⟨ob, rfl, rfl⟩)) rfl rfl ?_))))
  rintro _ _ ⟨ob_6657, rfl, rfl⟩
  refine VO.t (v := .bool false) (t_assign rfl (fun _ _ => rfl)) rfl rfl (VO.nil (thenQ_normal (VW.subK (.c 1 rfl (.c 2 rfl .n)) rfl (VW.seq (VW.seq (VW.region (VO.r (v := .agg [.int .i64 a0.Op, .int .i64 a0.Lo, .int .i64 a0.Hi, .sl .fz (a0.Kids.map Node.c)]) (r_load_q (i := 0) rfl sz36 rfl rfl rfl) rfl rfl ?_)))))))
  obtain ⟨rv_6658, hx_6659, h⟩ := obind h
  refine VO.w (fun v H' => .bool rv_6658 = v ∧ H' = hq ([[(ob_6657, .cells [.int .i64 a0.Op, .int .i64 a0.Lo, .int .i64 a0.Hi, .sl .fz (a0.Kids.map Node.c)])]]) []) (w_call_q (sa := []) (sg := [[(ob_6657, .cells [.int .i64 a0.Op, .int .i64 a0.Lo, .int .i64 a0.Hi, .sl .fz (a0.Kids.map Node.c)])]]) (tks := []) rfl fn20 rfl ⟨_, _, rfl, rfl, rfl⟩ (law03_large_ok _ _ hx_6659) (by rintro v H' ⟨rfl, rfl⟩; exact ⟨[], rfl, rfl, rfl⟩)) rfl rfl ?_
  rintro _ _ ⟨rfl, rfl⟩
  refine VO.t (t_move rfl rfl) rfl rfl ?_
  refine VO.caseB (d := 12) (b := rv_6658) rfl (fun hc_6660 => ?_) (fun hc_6660 => ?_)
  · replace h := iteT h hc_6660
    refine VO.gskip rfl rfl rfl rfl rfl (VO.gskip rfl rfl rfl rfl rfl (VO.gskip rfl rfl rfl rfl rfl (VO.t (v := .bool true) (t_pick (b := true) rfl rfl (fun _ => (fun _ _ => rfl)) (fun h => by cases h)) rfl rfl (VO.nil (thenQ_normal (VW.subK (.c 1 rfl (.c 2 rfl (.c 16 rfl .n))) rfl (VW.condT rfl (VW.seq (VW.region ?_)))))))))
    obtain ⟨rv_6661, hx_6662, h⟩ := obind h
    refine VO.w (fun v H' => .bool rv_6661 = v ∧ H' = hq ([[(ob_6657, .cells [.int .i64 a0.Op, .int .i64 a0.Lo, .int .i64 a0.Hi, .sl .fz (a0.Kids.map Node.c)])]]) []) (w_call_q (sa := []) (sg := [[(ob_6657, .cells [.int .i64 a0.Op, .int .i64 a0.Lo, .int .i64 a0.Hi, .sl .fz (a0.Kids.map Node.c)])]]) (tks := []) rfl fn5 rfl rfl (law03_sane_ok  _ hx_6662) (by rintro v H' ⟨rfl, rfl⟩; exact ⟨[], rfl, rfl, rfl⟩)) rfl rfl ?_
    rintro _ _ ⟨rfl, rfl⟩
    refine VO.t (v := .bool rv_6661) (t_assign rfl rfl) rfl rfl (VO.nil (thenQ_normal (VW.subK (.c 4 rfl .n) rfl (VW.hsub (A := hq [] []) (hq_sub (.cons _ .slnil) .slnil) (VW.ret (thenQ_ret ?_))))))
    have h := Option.some.inj h
    subst h
    exact ⟨.inr rfl, rfl, _, .bool rv_6661, hq [] [], rfl, VLe.refl _, hq_sub .slnil .slnil, rfl, rfl⟩
  · replace h := iteF h hc_6660
    refine VO.gr (v := .agg [.int .i64 a0.Op, .int .i64 a0.Lo, .int .i64 a0.Hi, .sl .fz (a0.Kids.map Node.c)]) (r_load_q (i := 0) rfl sz36 rfl rfl rfl) rfl rfl rfl rfl ?_
    obtain ⟨rv_6663, hx_6664, h⟩ := obind h
    refine VO.gw (fun v H' => .int .i64 rv_6663 = v ∧ H' = hq ([[(ob_6657, .cells [.int .i64 a0.Op, .int .i64 a0.Lo, .int .i64 a0.Hi, .sl .fz (a0.Kids.map Node.c)])]]) []) (w_call_q (sa := []) (sg := [[(ob_6657, .cells [.int .i64 a0.Op, .int .i64 a0.Lo, .int .i64 a0.Hi, .sl .fz (a0.Kids.map Node.c)])]]) (tks := []) rfl fn21 rfl ⟨_, _, rfl, rfl, rfl⟩ (ref03_Check_ok _ _ hx_6664) (by rintro v H' ⟨rfl, rfl⟩; exact ⟨[], rfl, rfl, rfl⟩)) rfl rfl rfl rfl ?_
    rintro _ _ ⟨rfl, rfl⟩
    refine VO.gt (v := .bool (rv_6663 != 0)) (t_cmp rfl rfl rfl (fun _ _ => rfl) rfl) rfl rfl rfl rfl (VO.t (v := .bool (rv_6663 != 0)) (t_pick (b := false) rfl rfl (fun h => by cases h) (fun _ => rfl)) rfl rfl (VO.nil (thenQ_normal (VW.subK (.c 1 rfl (.c 2 rfl (.c 16 rfl .n))) rfl ?_))))
    refine VW.cond (b := (rv_6663 != 0)) rfl (fun hc_6665 => ?_) (fun hc_6665 => ?_)
    · replace h := iteT h hc_6665
      refine VW.seq (VW.region ?_)
      obtain ⟨rv_6666, hx_6667, h⟩ := obind h
      refine VO.w (fun v H' => .bool rv_6666 = v ∧ H' = hq ([[(ob_6657, .cells [.int .i64 a0.Op, .int .i64 a0.Lo, .int .i64 a0.Hi, .sl .fz (a0.Kids.map Node.c)])]]) []) (w_call_q (sa := []) (sg := [[(ob_6657, .cells [.int .i64 a0.Op, .int .i64 a0.Lo, .int .i64 a0.Hi, .sl .fz (a0.Kids.map Node.c)])]]) (tks := []) rfl fn5 rfl rfl (law03_sane_ok  _ hx_6667) (by rintro v H' ⟨rfl, rfl⟩; exact ⟨[], rfl, rfl, rfl⟩)) rfl rfl ?_
      rintro _ _ ⟨rfl, rfl⟩
      refine VO.t (v := .bool rv_6666) (t_assign rfl rfl) rfl rfl (VO.nil (thenQ_normal (VW.subK (.c 4 rfl .n) rfl (VW.hsub (A := hq [] []) (hq_sub (.cons _ .slnil) .slnil) (VW.ret (thenQ_ret ?_))))))
      have h := Option.some.inj h
      subst h
      exact ⟨.inr rfl, rfl, _, .bool rv_6666, hq [] [], rfl, VLe.refl _, hq_sub .slnil .slnil, rfl, rfl⟩
    · replace h := iteF h hc_6665
      refine VW.skip (thenQ_normal (VW.subK (.c 1 rfl (.c 2 rfl .n)) rfl (VW.seq (VW.region (VO.r (v := .agg [.int .i64 a0.Op, .int .i64 a0.Lo, .int .i64 a0.Hi, .sl .fz (a0.Kids.map Node.c)]) (r_load_q (i := 0) rfl sz36 rfl rfl rfl) rfl rfl ?_)))))
      obtain ⟨rv_6668, hx_6669, h⟩ := obind h
      refine VO.w (fun v H' => .agg [.int .i64 rv_6668.Op, .int .i64 rv_6668.Lo, .int .i64 rv_6668.Hi, .sl .fz (rv_6668.Kids.map Node.c)] = v ∧ H' = hq ([[(ob_6657, .cells [.int .i64 a0.Op, .int .i64 a0.Lo, .int .i64 a0.Hi, .sl .fz (a0.Kids.map Node.c)])]]) []) (w_call_q (sa := []) (sg := [[(ob_6657, .cells [.int .i64 a0.Op, .int .i64 a0.Lo, .int .i64 a0.Hi, .sl .fz (a0.Kids.map Node.c)])]]) (tks := []) rfl fn23 rfl ⟨_, _, rfl, rfl, rfl⟩ (law03_node_ok _ _ hx_6669) (by rintro v H' ⟨rfl, rfl⟩; exact ⟨[], rfl, rfl, rfl⟩)) rfl rfl ?_
      rintro _ _ ⟨rfl, rfl⟩
      obtain ⟨⟨rv_6670, rv_6671⟩, hx_6672, h⟩ := obind h
      try dsimp only at h
      refine VO.w (fun v H' => .tup [.sl .fz (rv_6670.map Pr.c), .int .i64 rv_6671] = v ∧ H' = hq ([[(ob_6657, .cells [.int .i64 a0.Op, .int .i64 a0.Lo, .int .i64 a0.Hi, .sl .fz (a0.Kids.map Node.c)])]]) []) (w_call_q (sa := []) (sg := [[(ob_6657, .cells [.int .i64 a0.Op, .int .i64 a0.Lo, .int .i64 a0.Hi, .sl .fz (a0.Kids.map Node.c)])]]) (tks := []) rfl fn22 rfl ⟨_, _, rfl, rfl, rfl⟩ (set_Of_ok _ _ hx_6672) (by rintro v H' ⟨rfl, rfl⟩; exact ⟨[], rfl, rfl, rfl⟩)) rfl rfl ?_
      rintro _ _ ⟨rfl, rfl⟩
      refine VO.t (t_move rfl rfl) rfl rfl (VO.t (v := .sl .fz (rv_6670.map Pr.c)) (t_extract rfl rfl rfl) rfl rfl (VO.t (v := .int .i64 rv_6671) (t_extract rfl rfl rfl) rfl rfl (VO.t (v := .sl .fz (rv_6670.map Pr.c)) (t_assign rfl rfl) rfl rfl (VO.t (v := .int .i64 rv_6671) (t_assign rfl rfl) rfl rfl (VO.nil (thenQ_normal (VW.subK (.c 1 rfl (.c 2 rfl (.c 5 rfl (.c 6 rfl .n)))) rfl (VW.seq (VW.seq ?_)))))))))
      refine VW.region (VO.t (t_move rfl rfl) rfl rfl (VO.t (v := .bool (rv_6671 != 0)) (t_cmp rfl rfl rfl (fun _ _ => rfl) rfl) rfl rfl (VO.nil (thenQ_normal (VW.subK (.c 1 rfl (.c 2 rfl (.c 5 rfl (.c 6 rfl (.c 25 rfl .n))))) rfl ?_)))))
      refine VW.cond (b := (rv_6671 != 0)) rfl (fun hc_6673 => ?_) (fun hc_6673 => ?_)
      · replace h := iteT h hc_6673
        refine VW.seq (VW.region (VO.t (t_move rfl rfl) rfl rfl (VO.t (v := .bool (rv_6671 == 2)) (t_cmp rfl rfl rfl (fun _ _ => rfl) rfl) rfl rfl (VO.t (t_move rfl rfl) rfl rfl ?_))))
        refine VO.caseB (d := 28) (b := (rv_6671 == 2)) rfl (fun hc_6674 => ?_) (fun hc_6674 => ?_)
        · replace h := iteT h hc_6674
          obtain ⟨rv_6675, hx_6676, h⟩ := obind h
          refine VO.gw (fun v H' => .bool rv_6675 = v ∧ H' = hq ([[(ob_6657, .cells [.int .i64 a0.Op, .int .i64 a0.Lo, .int .i64 a0.Hi, .sl .fz (a0.Kids.map Node.c)])]]) []) (w_call_q (sa := []) (sg := [[(ob_6657, .cells [.int .i64 a0.Op, .int .i64 a0.Lo, .int .i64 a0.Hi, .sl .fz (a0.Kids.map Node.c)])]]) (tks := []) rfl fn5 rfl rfl (law03_sane_ok  _ hx_6676) (by rintro v H' ⟨rfl, rfl⟩; exact ⟨[], rfl, rfl, rfl⟩)) rfl rfl rfl rfl ?_
          rintro _ _ ⟨rfl, rfl⟩
          refine VO.t (v := .bool rv_6675) (t_pick (b := true) rfl rfl (fun _ => rfl) (fun h => by cases h)) rfl rfl (VO.t (v := .bool rv_6675) (t_assign rfl rfl) rfl rfl (VO.nil (thenQ_normal (VW.subK (.c 4 rfl .n) rfl (VW.hsub (A := hq [] []) (hq_sub (.cons _ .slnil) .slnil) (VW.ret (thenQ_ret ?_)))))))
          have h := Option.some.inj h
          subst h
          exact ⟨.inr rfl, rfl, _, .bool rv_6675, hq [] [], rfl, VLe.refl _, hq_sub .slnil .slnil, rfl, rfl⟩
        · replace h := iteF h hc_6674
          refine VO.gskip rfl rfl rfl rfl rfl (VO.t (v := .bool false) (t_pick (b := false) rfl rfl (fun h => by cases h) (fun _ => (fun _ _ => rfl))) rfl rfl (VO.t (v := .bool false) (t_assign rfl rfl) rfl rfl (VO.nil (thenQ_normal (VW.subK (.c 4 rfl .n) rfl (VW.hsub (A := hq [] []) (hq_sub (.cons _ .slnil) .slnil) (VW.ret (thenQ_ret ?_))))))))
          have h := Option.some.inj h
          subst h
          exact ⟨.inr rfl, rfl, _, .bool false, hq [] [], rfl, VLe.refl _, hq_sub .slnil .slnil, rfl, rfl⟩
      · replace h := iteF h hc_6673
        refine VW.skip (thenQ_normal (VW.subK (.c 1 rfl (.c 2 rfl (.c 5 rfl .n))) rfl (VW.seq (VW.region (VO.t (t_move rfl rfl) rfl rfl (VO.t (t_move rfl rfl) rfl rfl ?_))))))
        obtain ⟨⟨rv_6677, rv_6678⟩, hx_6679, h⟩ := obind h
        try dsimp only at h
        refine VO.w (fun v H' => .tup [.bool rv_6677, .int .i64 rv_6678] = v ∧ H' = hq ([[(ob_6657, .cells [.int .i64 a0.Op, .int .i64 a0.Lo, .int .i64 a0.Hi, .sl .fz (a0.Kids.map Node.c)])]]) []) (w_call_q (sa := []) (sg := [[(ob_6657, .cells [.int .i64 a0.Op, .int .i64 a0.Lo, .int .i64 a0.Hi, .sl .fz (a0.Kids.map Node.c)])]]) (tks := []) rfl fn24 rfl ⟨_, _, rfl, rfl, _, _, rfl, rfl, rfl⟩ (set_Has_ok _ _ _ hx_6679) (by rintro v H' ⟨rfl, rfl⟩; exact ⟨[], rfl, rfl, rfl⟩)) rfl rfl ?_
        rintro _ _ ⟨rfl, rfl⟩
        refine VO.t (t_move rfl rfl) rfl rfl (VO.t (v := .bool rv_6677) (t_extract rfl rfl rfl) rfl rfl (VO.t (v := .int .i64 rv_6678) (t_extract rfl rfl rfl) rfl rfl (VO.t (v := .bool rv_6677) (t_assign rfl rfl) rfl rfl (VO.t (v := .int .i64 rv_6678) (t_assign rfl rfl) rfl rfl (VO.nil (thenQ_normal (VW.subK (.c 1 rfl (.c 2 rfl (.c 5 rfl (.c 7 rfl (.c 6 rfl .n))))) rfl (VW.seq (VW.seq ?_)))))))))
        refine VW.region (VO.t (t_move rfl rfl) rfl rfl (VO.t (v := .bool (rv_6678 != 0)) (t_cmp rfl rfl rfl (fun _ _ => rfl) rfl) rfl rfl (VO.t (t_move rfl rfl) rfl rfl ?_)))
        refine VO.caseB (d := 39) (b := (rv_6678 != 0)) rfl (fun hc_6680 => ?_) (fun hc_6680 => ?_)
        · replace h := iteT h hc_6680
          refine VO.gskip rfl rfl rfl rfl rfl (VO.gskip rfl rfl rfl rfl rfl (VO.gskip rfl rfl rfl rfl rfl (VO.gskip rfl rfl rfl rfl rfl (VO.gskip rfl rfl rfl rfl rfl (VO.t (v := .bool true) (t_pick (b := true) rfl rfl (fun _ => (fun _ _ => rfl)) (fun h => by cases h)) rfl rfl (VO.nil (thenQ_normal (VW.subK (.c 2 rfl (.c 5 rfl (.c 45 rfl .n))) rfl (VW.condT rfl ?_)))))))))
          refine VW.seq (VW.region (VO.t (v := .bool false) (t_assign rfl (fun _ _ => rfl)) rfl rfl (VO.nil (thenQ_normal (VW.subK (.c 4 rfl .n) rfl (VW.hsub (A := hq [] []) (hq_sub (.cons _ .slnil) .slnil) (VW.ret (thenQ_ret ?_))))))))
          have h := Option.some.inj h
          subst h
          exact ⟨.inr rfl, rfl, _, .bool false, hq [] [], rfl, VLe.refl _, hq_sub .slnil .slnil, rfl, rfl⟩
        · replace h := iteF h hc_6680
          refine VO.gt (v := .bool rv_6677) (t_move rfl rfl) rfl rfl rfl rfl (VO.gr (v := .agg [.int .i64 a0.Op, .int .i64 a0.Lo, .int .i64 a0.Hi, .sl .fz (a0.Kids.map Node.c)]) (r_load_q (i := 0) rfl sz36 rfl rfl rfl) rfl rfl rfl rfl (VO.gt (v := .int .i64 a1) (t_move rfl rfl) rfl rfl rfl rfl ?_))
          obtain ⟨rv_6681, hx_6682, h⟩ := obind h
          refine VO.gw (fun v H' => .bool rv_6681 = v ∧ H' = hq ([[(ob_6657, .cells [.int .i64 a0.Op, .int .i64 a0.Lo, .int .i64 a0.Hi, .sl .fz (a0.Kids.map Node.c)])]]) []) (w_call_q (sa := []) (sg := [[(ob_6657, .cells [.int .i64 a0.Op, .int .i64 a0.Lo, .int .i64 a0.Hi, .sl .fz (a0.Kids.map Node.c)])]]) (tks := []) rfl fn25 rfl ⟨_, _, rfl, rfl, _, _, rfl, rfl, rfl⟩ (ref03_Holds_ok _ _ _ hx_6682) (by rintro v H' ⟨rfl, rfl⟩; exact ⟨[], rfl, rfl, rfl⟩)) rfl rfl rfl rfl ?_
          rintro _ _ ⟨rfl, rfl⟩
          refine VO.gt (v := .bool (rv_6677 != rv_6681)) (t_bne rfl Try.underlying4 rfl rfl rfl) rfl rfl rfl rfl (VO.t (v := .bool (rv_6677 != rv_6681)) (t_pick (b := false) rfl rfl (fun h => by cases h) (fun _ => rfl)) rfl rfl (VO.nil (thenQ_normal (VW.subK (.c 2 rfl (.c 5 rfl (.c 45 rfl .n))) rfl ?_))))
          refine VW.cond (b := (rv_6677 != rv_6681)) rfl (fun hc_6683 => ?_) (fun hc_6683 => ?_)
          · replace h := iteT h hc_6683
            refine VW.seq (VW.region (VO.t (v := .bool false) (t_assign rfl (fun _ _ => rfl)) rfl rfl (VO.nil (thenQ_normal (VW.subK (.c 4 rfl .n) rfl (VW.hsub (A := hq [] []) (hq_sub (.cons _ .slnil) .slnil) (VW.ret (thenQ_ret ?_))))))))
            have h := Option.some.inj h
            subst h
            exact ⟨.inr rfl, rfl, _, .bool false, hq [] [], rfl, VLe.refl _, hq_sub .slnil .slnil, rfl, rfl⟩
          · replace h := iteF h hc_6683
            refine VW.skip (thenQ_normal (VW.subK (.c 2 rfl (.c 5 rfl .n)) rfl (VW.seq (VW.region (VO.r (v := .agg [.int .i64 a0.Op, .int .i64 a0.Lo, .int .i64 a0.Hi, .sl .fz (a0.Kids.map Node.c)]) (r_load_q (i := 0) rfl sz36 rfl rfl rfl) rfl rfl ?_)))))
            obtain ⟨rv_6684, hx_6685, h⟩ := obind h
            refine VO.w (fun v H' => .agg [.int .i64 rv_6684.Op, .int .i64 rv_6684.Lo, .int .i64 rv_6684.Hi, .sl .fz (rv_6684.Kids.map Node.c)] = v ∧ H' = hq ([[(ob_6657, .cells [.int .i64 a0.Op, .int .i64 a0.Lo, .int .i64 a0.Hi, .sl .fz (a0.Kids.map Node.c)])]]) []) (w_call_q (sa := []) (sg := [[(ob_6657, .cells [.int .i64 a0.Op, .int .i64 a0.Lo, .int .i64 a0.Hi, .sl .fz (a0.Kids.map Node.c)])]]) (tks := []) rfl fn23 rfl ⟨_, _, rfl, rfl, rfl⟩ (law03_node_ok _ _ hx_6685) (by rintro v H' ⟨rfl, rfl⟩; exact ⟨[], rfl, rfl, rfl⟩)) rfl rfl ?_
            rintro _ _ ⟨rfl, rfl⟩
            obtain ⟨⟨rv_6686, rv_6687⟩, hx_6688, h⟩ := obind h
            try dsimp only at h
            refine VO.w (fun v H' => .tup [.agg [.int .i64 rv_6686.Op, .int .i64 rv_6686.Lo, .int .i64 rv_6686.Hi, .sl .fz (rv_6686.Kids.map Node.c)], .int .i64 rv_6687] = v ∧ H' = hq ([[(ob_6657, .cells [.int .i64 a0.Op, .int .i64 a0.Lo, .int .i64 a0.Hi, .sl .fz (a0.Kids.map Node.c)])]]) []) (w_call_q (sa := []) (sg := [[(ob_6657, .cells [.int .i64 a0.Op, .int .i64 a0.Lo, .int .i64 a0.Hi, .sl .fz (a0.Kids.map Node.c)])]]) (tks := []) rfl fn26 rfl ⟨_, _, rfl, rfl, rfl⟩ (set_Root_ok _ _ hx_6688) (by rintro v H' ⟨rfl, rfl⟩; exact ⟨[], rfl, rfl, rfl⟩)) rfl rfl ?_
            rintro _ _ ⟨rfl, rfl⟩
            refine VO.t (t_move rfl rfl) rfl rfl (VO.t (v := .agg [.int .i64 rv_6686.Op, .int .i64 rv_6686.Lo, .int .i64 rv_6686.Hi, .sl .fz (rv_6686.Kids.map Node.c)]) (t_extract rfl rfl rfl) rfl rfl (VO.t (v := .int .i64 rv_6687) (t_extract rfl rfl rfl) rfl rfl (VO.w (fun v H' => ∃ ob_6689, .ptr ob_6689 0 = v ∧ H' = hq ([[(ob_6689, .cells [.int .i64 0, .int .i64 0, .int .i64 0, .sl .nl []])], [(ob_6657, .cells [.int .i64 a0.Op, .int .i64 a0.Lo, .int .i64 a0.Hi, .sl .fz (a0.Kids.map Node.c)])]]) []) (w_alloc_q rfl zt42 (fun ob => ⟨ob, rfl, rfl⟩)) rfl rfl ?_)))
            rintro _ _ ⟨ob_6689, rfl, rfl⟩
            refine VO.w (fun v H' => .any = v ∧ H' = hq ([[(ob_6689, .cells [.int .i64 rv_6686.Op, .int .i64 rv_6686.Lo, .int .i64 rv_6686.Hi, .sl .fz (rv_6686.Kids.map Node.c)])], [(ob_6657, .cells [.int .i64 a0.Op, .int .i64 a0.Lo, .int .i64 a0.Hi, .sl .fz (a0.Kids.map Node.c)])]]) []) (w_store_q (i := 0) rfl sz42 rfl rfl rfl rfl rfl (Nat.le_of_ble_eq_true rfl) ⟨rfl, rfl⟩) rfl rfl ?_
            rintro _ _ ⟨rfl, rfl⟩
            refine VO.t (v := .int .i64 rv_6687) (t_assign rfl rfl) rfl rfl (VO.nil (thenQ_normal (VW.subK (.c 5 rfl (.c 8 rfl (.c 6 rfl .n))) rfl (VW.hsub (A := hq ([[(ob_6689, .cells [.int .i64 rv_6686.Op, .int .i64 rv_6686.Lo, .int .i64 rv_6686.Hi, .sl .fz (rv_6686.Kids.map Node.c)])]]) []) (hq_sub (.cons_cons _ (.cons _ .slnil)) .slnil) (VW.seq (VW.seq (VW.region (VO.t (t_move rfl rfl) rfl rfl (VO.t (v := .bool (rv_6687 != 0)) (t_cmp rfl rfl rfl (fun _ _ => rfl) rfl) rfl rfl ?_)))))))))
            refine VO.nil (thenQ_normal (VW.subK (.c 5 rfl (.c 8 rfl (.c 53 rfl .n))) rfl ?_))
            refine VW.cond (b := (rv_6687 != 0)) rfl (fun hc_6690 => ?_) (fun hc_6690 => ?_)
            · replace h := iteT h hc_6690
              refine VW.seq (VW.region (VO.t (v := .bool false) (t_assign rfl (fun _ _ => rfl)) rfl rfl (VO.nil (thenQ_normal (VW.subK (.c 4 rfl .n) rfl (VW.hsub (A := hq [] []) (hq_sub (.cons _ .slnil) .slnil) (VW.ret (thenQ_ret ?_))))))))
              have h := Option.some.inj h
              subst h
              exact ⟨.inr rfl, rfl, _, .bool false, hq [] [], rfl, VLe.refl _, hq_sub .slnil .slnil, rfl, rfl⟩
            · replace h := iteF h hc_6690
              refine VW.skip (thenQ_normal (VW.subK (.c 5 rfl (.c 8 rfl .n)) rfl (VW.seq (VW.region (VO.r (v := .agg [.int .i64 rv_6686.Op, .int .i64 rv_6686.Lo, .int .i64 rv_6686.Hi, .sl .fz (rv_6686.Kids.map Node.c)]) (r_load_q (i := 0) rfl sz42 rfl rfl rfl) rfl rfl ?_)))))
              obtain ⟨⟨rv_6691, rv_6692⟩, hx_6693, h⟩ := obind h
              try dsimp only at h
              refine VO.w (fun v H' => .tup [.sl .fz (rv_6691.map Pr.c), .int .i64 rv_6692] = v ∧ H' = hq ([[(ob_6689, .cells [.int .i64 rv_6686.Op, .int .i64 rv_6686.Lo, .int .i64 rv_6686.Hi, .sl .fz (rv_6686.Kids.map Node.c)])]]) []) (w_call_q (sa := []) (sg := [[(ob_6689, .cells [.int .i64 rv_6686.Op, .int .i64 rv_6686.Lo, .int .i64 rv_6686.Hi, .sl .fz (rv_6686.Kids.map Node.c)])]]) (tks := []) rfl fn22 rfl ⟨_, _, rfl, rfl, rfl⟩ (set_Of_ok _ _ hx_6693) (by rintro v H' ⟨rfl, rfl⟩; exact ⟨[], rfl, rfl, rfl⟩)) rfl rfl ?_
              rintro _ _ ⟨rfl, rfl⟩
              refine VO.t (t_move rfl rfl) rfl rfl (VO.t (v := .sl .fz (rv_6691.map Pr.c)) (t_extract rfl rfl rfl) rfl rfl (VO.t (v := .int .i64 rv_6692) (t_extract rfl rfl rfl) rfl rfl (VO.t (v := .sl .fz (rv_6691.map Pr.c)) (t_assign rfl rfl) rfl rfl (VO.t (v := .int .i64 rv_6692) (t_assign rfl rfl) rfl rfl (VO.nil (thenQ_normal (VW.subK (.c 5 rfl (.c 9 rfl (.c 6 rfl .n))) rfl (VW.hsub (A := hq [] []) (hq_sub (.cons _ .slnil) .slnil) (VW.seq ?_)))))))))
              refine VW.region (VO.t (t_move rfl rfl) rfl rfl (VO.t (v := .bool (rv_6692 == 0)) (t_cmp rfl rfl rfl (fun _ _ => rfl) rfl) rfl rfl (VO.t (t_move rfl rfl) rfl rfl ?_)))
              refine VO.caseB (d := 61) (b := (rv_6692 == 0)) rfl (fun hc_6694 => ?_) (fun hc_6694 => ?_)
              · replace h := iteT h hc_6694
                refine VO.gt (v := .sl .fz (rv_6670.map Pr.c)) (t_move rfl rfl) rfl rfl rfl rfl (VO.gt (v := .sl .fz (rv_6691.map Pr.c)) (t_move rfl rfl) rfl rfl rfl rfl ?_)
                obtain ⟨rv_6695, hx_6696, h⟩ := obind h
                refine VO.gw (fun v H' => .bool rv_6695 = v ∧ H' = hq [] []) (w_call_q (sa := []) (sg := []) (tks := []) rfl fn9 rfl ⟨_, _, rfl, rfl, _, _, rfl, rfl, rfl⟩ (ref01_Pairs_ok _ _ _ hx_6696) (by rintro v H' ⟨rfl, rfl⟩; exact ⟨[], rfl, rfl, rfl⟩)) rfl rfl rfl rfl ?_
                rintro _ _ ⟨rfl, rfl⟩
                refine VO.t (v := .bool rv_6695) (t_pick (b := true) rfl rfl (fun _ => rfl) (fun h => by cases h)) rfl rfl (VO.t (t_move rfl rfl) rfl rfl ?_)
                refine VO.caseB (d := 66) (b := rv_6695) rfl (fun hc_6697 => ?_) (fun hc_6697 => ?_)
                · replace h := iteT h hc_6697
                  obtain ⟨rv_6698, hx_6699, h⟩ := obind h
                  refine VO.gw (fun v H' => .bool rv_6698 = v ∧ H' = hq [] []) (w_call_q (sa := []) (sg := []) (tks := []) rfl fn5 rfl rfl (law03_sane_ok  _ hx_6699) (by rintro v H' ⟨rfl, rfl⟩; exact ⟨[], rfl, rfl, rfl⟩)) rfl rfl rfl rfl ?_
                  rintro _ _ ⟨rfl, rfl⟩
                  refine VO.t (v := .bool rv_6698) (t_pick (b := true) rfl rfl (fun _ => rfl) (fun h => by cases h)) rfl rfl (VO.t (v := .bool rv_6698) (t_assign rfl rfl) rfl rfl (VO.nil (thenQ_normal (VW.subK (.c 4 rfl .n) rfl (VW.ret ?_)))))
                  have h := Option.some.inj h
                  subst h
                  exact ⟨.inr rfl, rfl, _, .bool rv_6698, hq [] [], rfl, VLe.refl _, hq_sub .slnil .slnil, rfl, rfl⟩
                · replace h := iteF h hc_6697
                  refine VO.gskip rfl rfl rfl rfl rfl (VO.t (v := .bool false) (t_pick (b := false) rfl rfl (fun h => by cases h) (fun _ => (fun _ _ => rfl))) rfl rfl (VO.t (v := .bool false) (t_assign rfl rfl) rfl rfl (VO.nil (thenQ_normal (VW.subK (.c 4 rfl .n) rfl (VW.ret ?_))))))
                  have h := Option.some.inj h
                  subst h
                  exact ⟨.inr rfl, rfl, _, .bool false, hq [] [], rfl, VLe.refl _, hq_sub .slnil .slnil, rfl, rfl⟩
              · replace h := iteF h hc_6694
                refine VO.gskip rfl rfl rfl rfl rfl (VO.gskip rfl rfl rfl rfl rfl (VO.gskip rfl rfl rfl rfl rfl (VO.t (v := .bool false) (t_pick (b := false) rfl rfl (fun h => by cases h) (fun _ => (fun _ _ => rfl))) rfl rfl (VO.t (t_move rfl rfl) rfl rfl (VO.gskip rfl rfl rfl rfl rfl (VO.t (v := .bool false) (t_pick (b := false) rfl rfl (fun h => by cases h) (fun _ => (fun _ _ => rfl))) rfl rfl (VO.t (v := .bool false) (t_assign rfl rfl) rfl rfl (VO.nil (thenQ_normal ?_)))))))))
                refine VW.subK (.c 4 rfl .n) rfl (VW.ret ?_)
                have h := Option.some.inj h
                subst h
                exact ⟨.inr rfl, rfl, _, .bool false, hq [] [], rfl, VLe.refl _, hq_sub .slnil .slnil, rfl, rfl⟩

end Go.AV
