/- Functions of the program as plain functions, and that they compute these. Printed by gen.py. -/
import Derived.Test.YtbhaeajdabgnhaaAeG2
set_option linter.unusedVariables false
set_option linter.unusedSimpArgs false
set_option maxRecDepth 4000
set_option maxHeartbeats 1000000
namespace Go.Proofs.YtB
open Go Go.RowKit Go.Proofs Go.Proofs.YtbhaeajdabgnhaaW.PrintWords
/-! f96 -/
noncomputable def impl_changed_l29 (a0 : Sch) (a3 : List (List Int)) (x1 : List (List Int)) (x5 : List (List Int)) (x13 : List (List Int)) (x21 : List (List Int)) (x25 : List (List Int)) (s30 : Int) (s31 : List Prod) : Option (LR (Int × (List Prod)) Sch) :=
  if (decide (s30 < (a0.ps.length : Int))) = true then (if 0 ≤ s30 ∧ s30 < (a0.ps.length : Int) then ((impl_changed_1 x1 ((gl zProd a0.ps s30).1) a0.n a0.m x13 a0.p).bind fun x36 => (impl_changed_1 x5 ((gl zProd a0.ps s30).2.1) a0.m a0.k x21 a0.p).bind fun x38 => (impl_changed_1 x25 ((gl zProd a0.ps s30).2.2) a0.n a0.k a3 a0.p).bind fun x40 => if (s31.length + ([(x36, x38, x40)]).length) * 27 ≤ 140737488355328 then (some (.next (w64 (s30 + 1), (s31 ++ [(x36, x38, x40)])))) else none) else none) else (some (.stop (s30, s31)))
noncomputable def impl_changed (a0 : Sch) (a1 : List (List Int)) (a2 : List (List Int)) (a3 : List (List Int)) : Option Sch :=
  (impl_transposed a1).bind fun x1 => (impl_transposed a2).bind fun x5 => (impl_inverted a0.p a2).bind fun x9 => (impl_transposed x9).bind fun x13 => (impl_inverted a0.p a3).bind fun x17 => (impl_transposed x17).bind fun x21 => (impl_inverted a0.p a1).bind fun x25 => (iter (fun s => impl_changed_l29 a0 a3 x1 x5 x13 x21 x25 s.1 s.2) (0, ([] : List Prod))).bind fun o => match o with | .stop (s30, s31) => ((impl_with a0 s31).bind fun x44 => some (x44)) | .ret r => some r | .next _ => none
theorem impl_changed_ok {w0 : World} {a0 : Sch} {a1 : List (List Int)} {a2 : List (List Int)} {a3 : List (List Int)} {va0 : Value} {va1 : Value} {va2 : Value} {va3 : Value} (h0 : Ro (kf cProd) w0 va0 a0.ps) (h1 : Ro (Kd.slice 2 (kf fI64)) w0 va1 a1) (h2 : Ro (Kd.slice 2 (kf fI64)) w0 va2 a2) (h3 : Ro (Kd.slice 2 (kf fI64)) w0 va3 a3) {r : Sch} (hF : impl_changed a0 a1 a2 a3 = some r) :
    Calls Try.prog 96 [.agg ([vI a0.p, vI a0.n, vI a0.m, vI a0.k, va0]).toArray, va1, va2, va3].toArray w0 fun e w => ∃ v, e = .returned v ∧ Below w0.heap.size w0 w ∧ ∃ u0, .agg [.int .i64 r.p, .int .i64 r.n, .int .i64 r.m, .int .i64 r.k, u0].toArray = v ∧ Fresh (kf cProd) 82 w0 w u0 r.ps := by
  refine calls_of (k := 83) Try.func96 rfl rfl (Nat.le_of_ble_eq_true rfl) fun a hf => ?_
  replace hf : Fr 83 a [(0, .agg ([vI a0.p, vI a0.n, vI a0.m, vI a0.k, va0]).toArray), (1, va1), (2, va2), (3, va3)] := hf
  refine c_start fun w ρ hw => ?_
  unfold impl_changed at hF
  refine c_seq <| c_region ?_
  refine sx_ hf (r_box (cs := [vI a0.p, vI a0.n, vI a0.m, vI a0.k, va0]) 1 hw hf rfl rfl) fun a v w hf hΦ => ?_
  obtain ⟨g1, ρ, rfl, hw, hE, o1⟩ := hΦ
  have o3 : Ow (kf cProd) 82 ρ w w0.heap.size 3 (.slice none 0 0) [] := Ow.nil _ _ _ _ _ _
  refine sx_ hf (r_alloc (cs := [vI 0, vI 0, vI 0, vI 0, (.slice none 0 0)]) 2 ze39 rfl hw) fun a v w hf hΦ => ?_
  obtain ⟨g2, ρ, rfl, hw, hE, o2⟩ := hΦ
  replace o1 := o1.ext hE
  replace o3 := o3.ext hE
  refine c_nt <| c_seq <| c_region ?_
  refine s_ hf (r_fa fa39_0 hf rfl) fun a hf => ?_
  refine s_ hf (r_load_cell ty2 hf rfl (o1.cl.at_ 0 _ rfl)) fun a hf => ?_
  refine sx_ hf (r_lit (d := cProd) (xs := ([] : List Prod)) (vs := []) 4 Try.underlying37 el82 (Nat.le_of_ble_eq_true rfl) (Nat.le_of_ble_eq_true rfl) hw hf rfl rfl rfl) fun a v4 w hf hΦ => ?_
  obtain ⟨ρ, hw, hE, o4⟩ := hΦ
  replace o1 := o1.ext hE
  replace o3 := o3.ext hE
  replace o2 := o2.ext hE
  refine sx_ hf (r_alloc (cs := [vI 0]) 5 ze2 rfl hw) fun a v w hf hΦ => ?_
  obtain ⟨g5, ρ, rfl, hw, hE, o5⟩ := hΦ
  replace o1 := o1.ext hE
  replace o3 := o3.ext hE
  replace o2 := o2.ext hE
  replace o4 := o4.ext hE
  refine sk_ hf (r_store_w (cs' := [vI a0.p]) hw o5 (by decide) ty2 rfl rfl (one_one rfl) hf rfl rfl rfl) fun a w hf hΦ => ?_
  obtain ⟨hw, hA, o5⟩ := hΦ
  replace o1 := o1.adv hA (by decide)
  replace o3 := o3.adv hA (by decide)
  replace o2 := o2.adv hA (by decide)
  replace o4 := o4.adv hA (by decide)
  refine s_ hf (r_assign hf rfl) fun a hf => ?_
  refine c_nt <| c_seq <| c_region ?_
  refine s_ hf (r_mkfn hf rfl) fun a hf => ?_
  refine s_ hf (r_assign hf rfl) fun a hf => ?_
  refine c_nt <| c_seq <| c_region ?_
  refine s_ hf (r_move hf rfl) fun a hf => ?_
  obtain ⟨x1, hx2, hF⟩ := of_bind hF
  refine st_fn 6 hw hf rfl rfl (by decide) (r_fn en141 hf rfl) (impl_transposed_ok (h1.now hw) hx2) fun a v w ρ hf hw hE hN hΦ => ?_
  obtain ⟨u3, rfl, hr4⟩ := hΦ
  replace o1 := o1.ext hE
  replace o3 := o3.ext hE
  replace o2 := o2.ext hE
  replace o4 := o4.ext hE
  replace o5 := o5.ext hE
  have o6 := hN hr4
  refine s_ hf (r_move hf rfl) fun a hf => ?_
  obtain ⟨x5, hx6, hF⟩ := of_bind hF
  refine st_fn 7 hw hf rfl rfl (by decide) (r_fn en141 hf rfl) (impl_transposed_ok (h2.now hw) hx6) fun a v w ρ hf hw hE hN hΦ => ?_
  obtain ⟨u7, rfl, hr8⟩ := hΦ
  replace o1 := o1.ext hE
  replace o3 := o3.ext hE
  replace o2 := o2.ext hE
  replace o4 := o4.ext hE
  replace o5 := o5.ext hE
  replace o6 := o6.ext hE
  have o7 := hN hr8
  refine s_ hf (r_assign hf rfl) fun a hf => ?_
  refine s_ hf (r_assign hf rfl) fun a hf => ?_
  refine c_nt <| c_seq ?_
  obtain ⟨x9, hx10, hF⟩ := of_bind hF
  obtain ⟨x13, hx14, hF⟩ := of_bind hF
  replace hf : Fr 83 a [(1, va1), (2, va2), (3, va3), (4, .pointer (some ((⟨g1, 0, none⟩ : Addr).add 0))), (8, .pointer (some ((⟨g2, 0, none⟩ : Addr).add 0))), (9, .pointer (some ((⟨g5, 0, none⟩ : Addr).add 0))), (10, v4), (11, .func (.func 139) #[] #[.pointer (some ((⟨g5, 0, none⟩ : Addr).add 0))]), (12, u3), (13, u7)] := hf.sub ⟨rfl, rfl, rfl, rfl, rfl, rfl, rfl, rfl, rfl, rfl, trivial⟩
  refine c_drawL (h := 6) mixed (by kernel_rfl) (by kernel_rfl) (fun ρ w => Va ρ w 1 g1 39 ([vI a0.p, vI a0.n, vI a0.m, vI a0.k, va0]) ∧ Va ρ w 2 g2 39 ([vI 0, vI 0, vI 0, vI 0, (.slice none 0 0)]) ∧ O82 ρ w w0 3 (.slice none 0 0) ([] : List Prod) ∧ O82 ρ w w0 4 v4 ([] : List Prod) ∧ Va ρ w 5 g5 2 ([vI a0.p]) ∧ O36 ρ w w0 6 u3 x1 ∧ O36 ρ w w0 7 u7 x5) ?_ [fun ρ w v => vI a0.p = v, fun ρ w v => va2 = v, fun ρ w v => ∃ u11, u11 = v ∧ O36 ρ w w0 8 u11 x9, fun ρ w v => ∃ u15, u15 = v ∧ O36 ρ w w0 9 u15 x13, fun ρ w v => vI a0.p = v, fun ρ w v => va3 = v] ?_ hw ⟨o1, o2, o3, o4, o5, o6, o7⟩ hf ?_ ?_
  · intro ρ w ρ' w' hE hG
    obtain ⟨o1, o2, o3, o4, o5, o6, o7⟩ := hG
    exact ⟨o1.ext hE, o2.ext hE, o3.ext hE, o4.ext hE, o5.ext hE, o6.ext hE, o7.ext hE⟩
  · exact LastsL.cons (fun _ _ _ _ _ _ h => h) <| LastsL.cons (fun _ _ _ _ _ _ h => h) <| LastsL.cons (fun _ _ _ _ _ hE h => by obtain ⟨u11, h, o8⟩ := h; exact ⟨_, h, o8.ext hE⟩) <| LastsL.cons (fun _ _ _ _ _ hE h => by obtain ⟨u15, h, o9⟩ := h; exact ⟨_, h, o9.ext hE⟩) <| LastsL.cons (fun _ _ _ _ _ _ h => h) <| LastsL.cons (fun _ _ _ _ _ _ h => h) <| LastsL.nil
  · refine StepsB.cons ?_ <| StepsB.cons ?_ <| StepsB.cons ?_ <| StepsB.cons ?_ <| StepsB.cons ?_ <| StepsB.cons ?_ <| StepsB.nil
    · intro ρ w a hw hG hf hd K hK
      obtain ⟨o1, o2, o3, o4, o5, o6, o7⟩ := hG
      exact dv_ hK hw (wn rfl) (r_load_cell ty2 hf rfl o5.cl) rfl
    · intro ρ w a hw hG hf hd K hK
      obtain ⟨o1, o2, o3, o4, o5, o6, o7⟩ := hG
      exact dv_ hK hw (wn rfl) (r_move hf rfl) rfl
    · intro ρ w a hw hG hf hd K hK
      obtain ⟨o1, o2, o3, o4, o5, o6, o7⟩ := hG
      obtain ⟨_, hf, rfl⟩ := got (hd 0 (by kernel_rfl)) hf
      obtain ⟨_, hf, rfl⟩ := got (hd 1 (by kernel_rfl)) hf
      refine dc_ hK hw (wn rfl) (r_fn en55 hf rfl) (impl_inverted_ok (h2.now hw) hx10) fun v w' hΦ => ?_
      obtain ⟨hb, hΦ⟩ := hΦ
      obtain ⟨u11, rfl, hr12⟩ := hΦ
      have hE := Ext.new (ρ := ρ) 8 hb
      have o8 := Fresh.own (ρ := ρ) (B := w0.heap.size) hr12 hw.below.size 8
      exact ⟨_, hw.new 8 hb, hE, ex_ <| an_ rfl <| o8⟩
    · intro ρ w a hw hG hf hd K hK
      obtain ⟨o1, o2, o3, o4, o5, o6, o7⟩ := hG
      obtain ⟨_, hf, ⟨u11, rfl, o8⟩⟩ := got (hd 2 (by kernel_rfl)) hf
      refine dc_ hK hw (wn rfl) (r_fn en141 hf rfl) (impl_transposed_ok o8.ro hx14) fun v w' hΦ => ?_
      obtain ⟨hb, hΦ⟩ := hΦ
      obtain ⟨u15, rfl, hr16⟩ := hΦ
      have hE := Ext.new (ρ := ρ) 9 hb
      have o9 := Fresh.own (ρ := ρ) (B := w0.heap.size) hr16 hw.below.size 9
      exact ⟨_, hw.new 9 hb, hE, ex_ <| an_ rfl <| o9⟩
    · intro ρ w a hw hG hf hd K hK
      obtain ⟨o1, o2, o3, o4, o5, o6, o7⟩ := hG
      exact dv_ hK hw (wn rfl) (r_load_cell ty2 hf rfl o5.cl) rfl
    · intro ρ w a hw hG hf hd K hK
      obtain ⟨o1, o2, o3, o4, o5, o6, o7⟩ := hG
      exact dv_ hK hw (wn rfl) (r_move hf rfl) rfl
  intro ρ w a hw hG hf hd
  obtain ⟨o1, o2, o3, o4, o5, o6, o7⟩ := hG
  obtain ⟨_, hf, ⟨u15, rfl, o9⟩⟩ := got (hd 3 (by decide)) hf
  obtain ⟨_, hf, rfl⟩ := got (hd 4 (by decide)) hf
  obtain ⟨_, hf, rfl⟩ := got (hd 5 (by decide)) hf
  obtain ⟨x17, hx18, hF⟩ := of_bind hF
  refine st_fn 10 hw hf rfl rfl (by decide) (r_fn en55 hf rfl) (impl_inverted_ok (h3.now hw) hx18) fun a v w ρ hf hw hE hN hΦ => ?_
  obtain ⟨u19, rfl, hr20⟩ := hΦ
  replace o1 := o1.ext hE
  replace o2 := o2.ext hE
  replace o3 := o3.ext hE
  replace o4 := o4.ext hE
  replace o5 := o5.ext hE
  replace o6 := o6.ext hE
  replace o7 := o7.ext hE
  replace o9 := o9.ext hE
  have o10 := hN hr20
  obtain ⟨x21, hx22, hF⟩ := of_bind hF
  refine st_fn 11 hw hf rfl rfl (by decide) (r_fn en141 hf rfl) (impl_transposed_ok o10.ro hx22) fun a v w ρ hf hw hE hN hΦ => ?_
  obtain ⟨u23, rfl, hr24⟩ := hΦ
  replace o1 := o1.ext hE
  replace o2 := o2.ext hE
  replace o3 := o3.ext hE
  replace o4 := o4.ext hE
  replace o5 := o5.ext hE
  replace o6 := o6.ext hE
  replace o7 := o7.ext hE
  replace o9 := o9.ext hE
  replace o10 := o10.ext hE
  have o11 := hN hr24
  refine s_ hf (r_assign hf rfl) fun a hf => ?_
  refine s_ hf (r_assign hf rfl) fun a hf => ?_
  refine c_nt <| c_seq <| c_region ?_
  refine s_ hf (r_load_cell ty2 hf rfl o5.cl) fun a hf => ?_
  refine s_ hf (r_move hf rfl) fun a hf => ?_
  obtain ⟨x25, hx26, hF⟩ := of_bind hF
  refine st_fn 12 hw hf rfl rfl (by decide) (r_fn en55 hf rfl) (impl_inverted_ok (h1.now hw) hx26) fun a v w ρ hf hw hE hN hΦ => ?_
  obtain ⟨u27, rfl, hr28⟩ := hΦ
  replace o1 := o1.ext hE
  replace o2 := o2.ext hE
  replace o3 := o3.ext hE
  replace o4 := o4.ext hE
  replace o5 := o5.ext hE
  replace o6 := o6.ext hE
  replace o7 := o7.ext hE
  replace o9 := o9.ext hE
  replace o10 := o10.ext hE
  replace o11 := o11.ext hE
  have o12 := hN hr28
  refine s_ hf (r_assign hf rfl) fun a hf => ?_
  refine c_nt <| c_seq <| c_seq <| c_region ?_
  refine s_ hf (r_fa fa39_4 hf rfl) fun a hf => ?_
  refine s_ hf (r_load_cell ty37 hf rfl (o1.cl.at_ 4 _ rfl)) fun a hf => ?_
  refine s_ hf (r_len Try.underlying37 (h0.now hw) hf rfl) fun a hf => ?_
  refine s_ hf (r_move hf rfl) fun a hf => ?_
  refine c_nt ?_
  obtain ⟨ol29, ho29, hG29⟩ := of_bind hF
  clear hF
  refine c_block (c_loop (id := 0) (fun s => impl_changed_l29 a0 a3 x1 x5 x13 x21 x25 s.1 s.2) (fun (s : Int × (List Prod)) a w => match s with | (s30, s31) => ∃ ρ vv32, Wd w0 ρ w ∧ Fr 83 a [(3, va3), (4, .pointer (some ((⟨g1, 0, none⟩ : Addr).add 0))), (8, .pointer (some ((⟨g2, 0, none⟩ : Addr).add 0))), (10, vv32), (11, .func (.func 139) #[] #[.pointer (some ((⟨g5, 0, none⟩ : Addr).add 0))]), (12, u3), (13, u7), (14, u15), (15, u23), (16, u27), (39, va0), (40, vI (a0.ps.length : Int)), (41, vI s30)] ∧ Va ρ w 1 g1 39 ([vI a0.p, vI a0.n, vI a0.m, vI a0.k, va0]) ∧ Va ρ w 2 g2 39 ([vI 0, vI 0, vI 0, vI 0, (.slice none 0 0)]) ∧ O82 ρ w w0 3 (.slice none 0 0) ([] : List Prod) ∧ O82 ρ w w0 4 vv32 s31 ∧ Va ρ w 5 g5 2 ([vI a0.p]) ∧ O36 ρ w w0 6 u3 x1 ∧ O36 ρ w w0 7 u7 x5 ∧ O36 ρ w w0 9 u15 x13 ∧ O36 ρ w w0 11 u23 x21 ∧ O36 ρ w w0 12 u27 x25) (fun (s : Int × (List Prod)) a w => match s with | (s30, s31) => ∃ ρ vv32, Wd w0 ρ w ∧ Fr 83 a [(4, .pointer (some ((⟨g1, 0, none⟩ : Addr).add 0))), (8, .pointer (some ((⟨g2, 0, none⟩ : Addr).add 0))), (10, vv32)] ∧ Va ρ w 1 g1 39 ([vI a0.p, vI a0.n, vI a0.m, vI a0.k, va0]) ∧ Va ρ w 2 g2 39 ([vI 0, vI 0, vI 0, vI 0, (.slice none 0 0)]) ∧ O82 ρ w w0 3 (.slice none 0 0) ([] : List Prod) ∧ O82 ρ w w0 4 vv32 s31) ho29 ⟨_, _, hw, hf.sub ⟨rfl, rfl, rfl, rfl, rfl, rfl, rfl, rfl, rfl, rfl, rfl, rfl, rfl, trivial⟩, o1, o2, o3, o4, o5, o6, o7, o9, o11, o12⟩ ?_ ?_)
  · rintro ⟨s30, s31⟩ lr a w ⟨ρ, vv32, hw, hf, o1, o2, o3, o4, o5, o6, o7, o9, o11, o12⟩ hF
    replace hF : impl_changed_l29 a0 a3 x1 x5 x13 x21 x25 s30 s31 = some lr := hF
    unfold impl_changed_l29 at hF
    refine c_seq <| c_region ?_
    refine s_ hf (r_lss hf rfl rfl) fun a hf => ?_
    refine c_nt <| c_seq ?_
    rcases of_ite hF with ⟨hb33, hF⟩ | ⟨hb33, hF⟩
    rotate_left
    · refine c_iff hf rfl hb33 <| c_exit <| x_then ?_
      obtain rfl := Option.some.inj hF
      exact Rnd.stops ⟨_, _, hw, hf.sub ⟨rfl, rfl, rfl, trivial⟩, o1, o2, o3, o4⟩
    refine c_ift hf rfl hb33 <| c_skip <| n_then <| c_seq <| c_block <| c_seq <| c_region ?_
    obtain ⟨hc34, hF⟩ := of_guard hF
    obtain ⟨ad35, c35, he35, hl35⟩ := Ro.el cProd h0 zProd hc34.1 hc34.2
    refine s_ hf (r_idx Try.underlying37 sz82 hf rfl ⟨_, he35⟩ rfl hc34.1 hc34.2) fun a hf => ?_
    refine s_ hf (r_load_agg ty82 hf rfl (hl35.below hw.below) (cProd.len _)) fun a hf => ?_
    refine sx_ hf (r_alloc (cs := cProd.enc zProd) 13 ze82 rfl hw) fun a v w hf hΦ => ?_
    obtain ⟨g13, ρ, rfl, hw, hE, o13⟩ := hΦ
    replace o1 := o1.ext hE
    replace o2 := o2.ext hE
    replace o3 := o3.ext hE
    replace o4 := o4.ext hE
    replace o5 := o5.ext hE
    replace o6 := o6.ext hE
    replace o7 := o7.ext hE
    replace o9 := o9.ext hE
    replace o11 := o11.ext hE
    replace o12 := o12.ext hE
    refine sk_ hf (r_store_w (cs' := cProd.enc (gl zProd a0.ps s30)) hw o13 (by decide) ty82 (cProd.len _) (cProd.len _) (cProd.one _) hf rfl rfl rfl) fun a w hf hΦ => ?_
    obtain ⟨hw, hA, o13⟩ := hΦ
    replace o1 := o1.adv hA (by decide)
    replace o2 := o2.adv hA (by decide)
    replace o3 := o3.adv hA (by decide)
    replace o4 := o4.adv hA (by decide)
    replace o5 := o5.adv hA (by decide)
    replace o6 := o6.adv hA (by decide)
    replace o7 := o7.adv hA (by decide)
    replace o9 := o9.adv hA (by decide)
    replace o11 := o11.adv hA (by decide)
    replace o12 := o12.adv hA (by decide)
    refine c_nt ?_
    obtain ⟨x36, hx37, hF⟩ := of_bind hF
    obtain ⟨x38, hx39, hF⟩ := of_bind hF
    obtain ⟨x40, hx41, hF⟩ := of_bind hF
    replace hf : Fr 83 a [(3, va3), (4, .pointer (some ((⟨g1, 0, none⟩ : Addr).add 0))), (8, .pointer (some ((⟨g2, 0, none⟩ : Addr).add 0))), (10, vv32), (11, .func (.func 139) #[] #[.pointer (some ((⟨g5, 0, none⟩ : Addr).add 0))]), (12, u3), (13, u7), (14, u15), (15, u23), (16, u27), (18, .pointer (some ((⟨g13, 0, none⟩ : Addr).add 0))), (39, va0), (40, vI (a0.ps.length : Int)), (41, vI s30)] := hf.sub ⟨rfl, rfl, rfl, rfl, rfl, rfl, rfl, rfl, rfl, rfl, rfl, rfl, rfl, rfl, trivial⟩
    refine c_drawL (h := 33) mixed (by kernel_rfl) (by kernel_rfl) (fun ρ w => Va ρ w 1 g1 39 ([vI a0.p, vI a0.n, vI a0.m, vI a0.k, va0]) ∧ Va ρ w 2 g2 39 ([vI 0, vI 0, vI 0, vI 0, (.slice none 0 0)]) ∧ O82 ρ w w0 3 (.slice none 0 0) ([] : List Prod) ∧ O82 ρ w w0 4 vv32 s31 ∧ Va ρ w 5 g5 2 ([vI a0.p]) ∧ O36 ρ w w0 6 u3 x1 ∧ O36 ρ w w0 7 u7 x5 ∧ O36 ρ w w0 9 u15 x13 ∧ O36 ρ w w0 11 u23 x21 ∧ O36 ρ w w0 12 u27 x25 ∧ Va ρ w 13 g13 82 (cProd.enc (gl zProd a0.ps s30))) ?_ [fun ρ w v => vv32 = v, fun ρ w v => .func (.func 139) #[] #[.pointer (some ((⟨g5, 0, none⟩ : Addr).add 0))] = v, fun ρ w v => u3 = v, fun ρ w v => .pointer (some ((⟨g13, 0, none⟩ : Addr).add (0 + 0))) = v, fun ρ w v => .agg (cForm.enc ((gl zProd a0.ps s30).1)).toArray = v, fun ρ w v => .pointer (some ((⟨g1, 0, none⟩ : Addr).add (0 + 1))) = v, fun ρ w v => vI a0.n = v, fun ρ w v => .pointer (some ((⟨g1, 0, none⟩ : Addr).add (0 + 2))) = v, fun ρ w v => vI a0.m = v, fun ρ w v => u15 = v, fun ρ w v => .agg (cForm.enc x36).toArray = v, fun ρ w v => .func (.func 139) #[] #[.pointer (some ((⟨g5, 0, none⟩ : Addr).add 0))] = v, fun ρ w v => u7 = v, fun ρ w v => .pointer (some ((⟨g13, 0, none⟩ : Addr).add (0 + 9))) = v, fun ρ w v => .agg (cForm.enc ((gl zProd a0.ps s30).2.1)).toArray = v, fun ρ w v => .pointer (some ((⟨g1, 0, none⟩ : Addr).add (0 + 2))) = v, fun ρ w v => vI a0.m = v, fun ρ w v => .pointer (some ((⟨g1, 0, none⟩ : Addr).add (0 + 3))) = v, fun ρ w v => vI a0.k = v, fun ρ w v => u23 = v, fun ρ w v => .agg (cForm.enc x38).toArray = v, fun ρ w v => .func (.func 139) #[] #[.pointer (some ((⟨g5, 0, none⟩ : Addr).add 0))] = v, fun ρ w v => u27 = v, fun ρ w v => .pointer (some ((⟨g13, 0, none⟩ : Addr).add (0 + 18))) = v, fun ρ w v => .agg (cForm.enc ((gl zProd a0.ps s30).2.2)).toArray = v, fun ρ w v => .pointer (some ((⟨g1, 0, none⟩ : Addr).add (0 + 1))) = v, fun ρ w v => vI a0.n = v, fun ρ w v => .pointer (some ((⟨g1, 0, none⟩ : Addr).add (0 + 3))) = v, fun ρ w v => vI a0.k = v, fun ρ w v => va3 = v, fun ρ w v => .agg (cForm.enc x40).toArray = v, fun ρ w v => .agg (cProd.enc (x36, x38, x40)).toArray = v, fun ρ w v => ∃ v17, v17 = v ∧ O82 ρ w w0 17 v17 ([(x36, x38, x40)])] ?_ hw ⟨o1, o2, o3, o4, o5, o6, o7, o9, o11, o12, o13⟩ hf ?_ ?_
    · intro ρ w ρ' w' hE hG
      obtain ⟨o1, o2, o3, o4, o5, o6, o7, o9, o11, o12, o13⟩ := hG
      exact ⟨o1.ext hE, o2.ext hE, o3.ext hE, o4.ext hE, o5.ext hE, o6.ext hE, o7.ext hE, o9.ext hE, o11.ext hE, o12.ext hE, o13.ext hE⟩
    · exact LastsL.cons (fun _ _ _ _ _ _ h => h) <| LastsL.cons (fun _ _ _ _ _ _ h => h) <| LastsL.cons (fun _ _ _ _ _ _ h => h) <| LastsL.cons (fun _ _ _ _ _ _ h => h) <| LastsL.cons (fun _ _ _ _ _ _ h => h) <| LastsL.cons (fun _ _ _ _ _ _ h => h) <| LastsL.cons (fun _ _ _ _ _ _ h => h) <| LastsL.cons (fun _ _ _ _ _ _ h => h) <| LastsL.cons (fun _ _ _ _ _ _ h => h) <| LastsL.cons (fun _ _ _ _ _ _ h => h) <| LastsL.cons (fun _ _ _ _ _ _ h => h) <| LastsL.cons (fun _ _ _ _ _ _ h => h) <| LastsL.cons (fun _ _ _ _ _ _ h => h) <| LastsL.cons (fun _ _ _ _ _ _ h => h) <| LastsL.cons (fun _ _ _ _ _ _ h => h) <| LastsL.cons (fun _ _ _ _ _ _ h => h) <| LastsL.cons (fun _ _ _ _ _ _ h => h) <| LastsL.cons (fun _ _ _ _ _ _ h => h) <| LastsL.cons (fun _ _ _ _ _ _ h => h) <| LastsL.cons (fun _ _ _ _ _ _ h => h) <| LastsL.cons (fun _ _ _ _ _ _ h => h) <| LastsL.cons (fun _ _ _ _ _ _ h => h) <| LastsL.cons (fun _ _ _ _ _ _ h => h) <| LastsL.cons (fun _ _ _ _ _ _ h => h) <| LastsL.cons (fun _ _ _ _ _ _ h => h) <| LastsL.cons (fun _ _ _ _ _ _ h => h) <| LastsL.cons (fun _ _ _ _ _ _ h => h) <| LastsL.cons (fun _ _ _ _ _ _ h => h) <| LastsL.cons (fun _ _ _ _ _ _ h => h) <| LastsL.cons (fun _ _ _ _ _ _ h => h) <| LastsL.cons (fun _ _ _ _ _ _ h => h) <| LastsL.cons (fun _ _ _ _ _ _ h => h) <| LastsL.cons (fun _ _ _ _ _ hE h => by obtain ⟨v17, h, o17⟩ := h; exact ⟨_, h, o17.ext hE⟩) <| LastsL.nil
    · refine StepsB.cons ?_ <| StepsB.cons ?_ <| StepsB.cons ?_ <| StepsB.cons ?_ <| StepsB.cons ?_ <| StepsB.cons ?_ <| StepsB.cons ?_ <| StepsB.cons ?_ <| StepsB.cons ?_ <| StepsB.cons ?_ <| StepsB.cons ?_ <| StepsB.cons ?_ <| StepsB.cons ?_ <| StepsB.cons ?_ <| StepsB.cons ?_ <| StepsB.cons ?_ <| StepsB.cons ?_ <| StepsB.cons ?_ <| StepsB.cons ?_ <| StepsB.cons ?_ <| StepsB.cons ?_ <| StepsB.cons ?_ <| StepsB.cons ?_ <| StepsB.cons ?_ <| StepsB.cons ?_ <| StepsB.cons ?_ <| StepsB.cons ?_ <| StepsB.cons ?_ <| StepsB.cons ?_ <| StepsB.cons ?_ <| StepsB.cons ?_ <| StepsB.cons ?_ <| StepsB.cons ?_ <| StepsB.nil
      · intro ρ w a hw hG hf hd K hK
        obtain ⟨o1, o2, o3, o4, o5, o6, o7, o9, o11, o12, o13⟩ := hG
        exact dv_ hK hw (wn rfl) (r_move hf rfl) rfl
      · intro ρ w a hw hG hf hd K hK
        obtain ⟨o1, o2, o3, o4, o5, o6, o7, o9, o11, o12, o13⟩ := hG
        exact dv_ hK hw (wn rfl) (r_move hf rfl) rfl
      · intro ρ w a hw hG hf hd K hK
        obtain ⟨o1, o2, o3, o4, o5, o6, o7, o9, o11, o12, o13⟩ := hG
        exact dv_ hK hw (wn rfl) (r_move hf rfl) rfl
      · intro ρ w a hw hG hf hd K hK
        obtain ⟨o1, o2, o3, o4, o5, o6, o7, o9, o11, o12, o13⟩ := hG
        exact dv_ hK hw (wn rfl) (r_fa fa82_0 hf rfl) rfl
      · intro ρ w a hw hG hf hd K hK
        obtain ⟨o1, o2, o3, o4, o5, o6, o7, o9, o11, o12, o13⟩ := hG
        obtain ⟨_, hf, rfl⟩ := got (hd 3 (by kernel_rfl)) hf
        exact dv_ hK hw (wn rfl) (r_load_agg ty80 hf rfl (o13.cl.lens lProd_0) (cForm.len _)) rfl
      · intro ρ w a hw hG hf hd K hK
        obtain ⟨o1, o2, o3, o4, o5, o6, o7, o9, o11, o12, o13⟩ := hG
        exact dv_ hK hw (wn rfl) (r_fa fa39_1 hf rfl) rfl
      · intro ρ w a hw hG hf hd K hK
        obtain ⟨o1, o2, o3, o4, o5, o6, o7, o9, o11, o12, o13⟩ := hG
        obtain ⟨_, hf, rfl⟩ := got (hd 5 (by kernel_rfl)) hf
        exact dv_ hK hw (wn rfl) (r_load_cell ty2 hf rfl (o1.cl.at_ 1 _ rfl)) rfl
      · intro ρ w a hw hG hf hd K hK
        obtain ⟨o1, o2, o3, o4, o5, o6, o7, o9, o11, o12, o13⟩ := hG
        exact dv_ hK hw (wn rfl) (r_fa fa39_2 hf rfl) rfl
      · intro ρ w a hw hG hf hd K hK
        obtain ⟨o1, o2, o3, o4, o5, o6, o7, o9, o11, o12, o13⟩ := hG
        obtain ⟨_, hf, rfl⟩ := got (hd 7 (by kernel_rfl)) hf
        exact dv_ hK hw (wn rfl) (r_load_cell ty2 hf rfl (o1.cl.at_ 2 _ rfl)) rfl
      · intro ρ w a hw hG hf hd K hK
        obtain ⟨o1, o2, o3, o4, o5, o6, o7, o9, o11, o12, o13⟩ := hG
        exact dv_ hK hw (wn rfl) (r_move hf rfl) rfl
      · intro ρ w a hw hG hf hd K hK
        obtain ⟨o1, o2, o3, o4, o5, o6, o7, o9, o11, o12, o13⟩ := hG
        obtain ⟨_, hf, rfl⟩ := got (hd 1 (by kernel_rfl)) hf
        obtain ⟨_, hf, rfl⟩ := got (hd 2 (by kernel_rfl)) hf
        obtain ⟨_, hf, rfl⟩ := got (hd 4 (by kernel_rfl)) hf
        obtain ⟨_, hf, rfl⟩ := got (hd 6 (by kernel_rfl)) hf
        obtain ⟨_, hf, rfl⟩ := got (hd 8 (by kernel_rfl)) hf
        obtain ⟨_, hf, rfl⟩ := got (hd 9 (by kernel_rfl)) hf
        refine dc_ hK hw (wn rfl) (r_fnc en139 hf rfl rfl) (impl_changed_1_ok o6.ro o9.ro o5.cl hx37) fun v w' hΦ => ?_
        obtain ⟨hb, hΦ⟩ := hΦ
        obtain rfl := hΦ
        have hE := Ext.new (ρ := ρ) 14 hb
        exact ⟨_, hw.new 14 hb, hE, rfl⟩
      · intro ρ w a hw hG hf hd K hK
        obtain ⟨o1, o2, o3, o4, o5, o6, o7, o9, o11, o12, o13⟩ := hG
        exact dv_ hK hw (wn rfl) (r_move hf rfl) rfl
      · intro ρ w a hw hG hf hd K hK
        obtain ⟨o1, o2, o3, o4, o5, o6, o7, o9, o11, o12, o13⟩ := hG
        exact dv_ hK hw (wn rfl) (r_move hf rfl) rfl
      · intro ρ w a hw hG hf hd K hK
        obtain ⟨o1, o2, o3, o4, o5, o6, o7, o9, o11, o12, o13⟩ := hG
        exact dv_ hK hw (wn rfl) (r_fa fa82_1 hf rfl) rfl
      · intro ρ w a hw hG hf hd K hK
        obtain ⟨o1, o2, o3, o4, o5, o6, o7, o9, o11, o12, o13⟩ := hG
        obtain ⟨_, hf, rfl⟩ := got (hd 13 (by kernel_rfl)) hf
        exact dv_ hK hw (wn rfl) (r_load_agg ty80 hf rfl (o13.cl.lens lProd_1) (cForm.len _)) rfl
      · intro ρ w a hw hG hf hd K hK
        obtain ⟨o1, o2, o3, o4, o5, o6, o7, o9, o11, o12, o13⟩ := hG
        exact dv_ hK hw (wn rfl) (r_fa fa39_2 hf rfl) rfl
      · intro ρ w a hw hG hf hd K hK
        obtain ⟨o1, o2, o3, o4, o5, o6, o7, o9, o11, o12, o13⟩ := hG
        obtain ⟨_, hf, rfl⟩ := got (hd 15 (by kernel_rfl)) hf
        exact dv_ hK hw (wn rfl) (r_load_cell ty2 hf rfl (o1.cl.at_ 2 _ rfl)) rfl
      · intro ρ w a hw hG hf hd K hK
        obtain ⟨o1, o2, o3, o4, o5, o6, o7, o9, o11, o12, o13⟩ := hG
        exact dv_ hK hw (wn rfl) (r_fa fa39_3 hf rfl) rfl
      · intro ρ w a hw hG hf hd K hK
        obtain ⟨o1, o2, o3, o4, o5, o6, o7, o9, o11, o12, o13⟩ := hG
        obtain ⟨_, hf, rfl⟩ := got (hd 17 (by kernel_rfl)) hf
        exact dv_ hK hw (wn rfl) (r_load_cell ty2 hf rfl (o1.cl.at_ 3 _ rfl)) rfl
      · intro ρ w a hw hG hf hd K hK
        obtain ⟨o1, o2, o3, o4, o5, o6, o7, o9, o11, o12, o13⟩ := hG
        exact dv_ hK hw (wn rfl) (r_move hf rfl) rfl
      · intro ρ w a hw hG hf hd K hK
        obtain ⟨o1, o2, o3, o4, o5, o6, o7, o9, o11, o12, o13⟩ := hG
        obtain ⟨_, hf, rfl⟩ := got (hd 11 (by kernel_rfl)) hf
        obtain ⟨_, hf, rfl⟩ := got (hd 12 (by kernel_rfl)) hf
        obtain ⟨_, hf, rfl⟩ := got (hd 14 (by kernel_rfl)) hf
        obtain ⟨_, hf, rfl⟩ := got (hd 16 (by kernel_rfl)) hf
        obtain ⟨_, hf, rfl⟩ := got (hd 18 (by kernel_rfl)) hf
        obtain ⟨_, hf, rfl⟩ := got (hd 19 (by kernel_rfl)) hf
        refine dc_ hK hw (wn rfl) (r_fnc en139 hf rfl rfl) (impl_changed_1_ok o7.ro o11.ro o5.cl hx39) fun v w' hΦ => ?_
        obtain ⟨hb, hΦ⟩ := hΦ
        obtain rfl := hΦ
        have hE := Ext.new (ρ := ρ) 15 hb
        exact ⟨_, hw.new 15 hb, hE, rfl⟩
      · intro ρ w a hw hG hf hd K hK
        obtain ⟨o1, o2, o3, o4, o5, o6, o7, o9, o11, o12, o13⟩ := hG
        exact dv_ hK hw (wn rfl) (r_move hf rfl) rfl
      · intro ρ w a hw hG hf hd K hK
        obtain ⟨o1, o2, o3, o4, o5, o6, o7, o9, o11, o12, o13⟩ := hG
        exact dv_ hK hw (wn rfl) (r_move hf rfl) rfl
      · intro ρ w a hw hG hf hd K hK
        obtain ⟨o1, o2, o3, o4, o5, o6, o7, o9, o11, o12, o13⟩ := hG
        exact dv_ hK hw (wn rfl) (r_fa fa82_2 hf rfl) rfl
      · intro ρ w a hw hG hf hd K hK
        obtain ⟨o1, o2, o3, o4, o5, o6, o7, o9, o11, o12, o13⟩ := hG
        obtain ⟨_, hf, rfl⟩ := got (hd 23 (by kernel_rfl)) hf
        exact dv_ hK hw (wn rfl) (r_load_agg ty80 hf rfl (o13.cl.lens lProd_2) (cForm.len _)) rfl
      · intro ρ w a hw hG hf hd K hK
        obtain ⟨o1, o2, o3, o4, o5, o6, o7, o9, o11, o12, o13⟩ := hG
        exact dv_ hK hw (wn rfl) (r_fa fa39_1 hf rfl) rfl
      · intro ρ w a hw hG hf hd K hK
        obtain ⟨o1, o2, o3, o4, o5, o6, o7, o9, o11, o12, o13⟩ := hG
        obtain ⟨_, hf, rfl⟩ := got (hd 25 (by kernel_rfl)) hf
        exact dv_ hK hw (wn rfl) (r_load_cell ty2 hf rfl (o1.cl.at_ 1 _ rfl)) rfl
      · intro ρ w a hw hG hf hd K hK
        obtain ⟨o1, o2, o3, o4, o5, o6, o7, o9, o11, o12, o13⟩ := hG
        exact dv_ hK hw (wn rfl) (r_fa fa39_3 hf rfl) rfl
      · intro ρ w a hw hG hf hd K hK
        obtain ⟨o1, o2, o3, o4, o5, o6, o7, o9, o11, o12, o13⟩ := hG
        obtain ⟨_, hf, rfl⟩ := got (hd 27 (by kernel_rfl)) hf
        exact dv_ hK hw (wn rfl) (r_load_cell ty2 hf rfl (o1.cl.at_ 3 _ rfl)) rfl
      · intro ρ w a hw hG hf hd K hK
        obtain ⟨o1, o2, o3, o4, o5, o6, o7, o9, o11, o12, o13⟩ := hG
        exact dv_ hK hw (wn rfl) (r_move hf rfl) rfl
      · intro ρ w a hw hG hf hd K hK
        obtain ⟨o1, o2, o3, o4, o5, o6, o7, o9, o11, o12, o13⟩ := hG
        obtain ⟨_, hf, rfl⟩ := got (hd 21 (by kernel_rfl)) hf
        obtain ⟨_, hf, rfl⟩ := got (hd 22 (by kernel_rfl)) hf
        obtain ⟨_, hf, rfl⟩ := got (hd 24 (by kernel_rfl)) hf
        obtain ⟨_, hf, rfl⟩ := got (hd 26 (by kernel_rfl)) hf
        obtain ⟨_, hf, rfl⟩ := got (hd 28 (by kernel_rfl)) hf
        obtain ⟨_, hf, rfl⟩ := got (hd 29 (by kernel_rfl)) hf
        refine dc_ hK hw (wn rfl) (r_fnc en139 hf rfl rfl) (impl_changed_1_ok o12.ro (h3.now hw) o5.cl hx41) fun v w' hΦ => ?_
        obtain ⟨hb, hΦ⟩ := hΦ
        obtain rfl := hΦ
        have hE := Ext.new (ρ := ρ) 16 hb
        exact ⟨_, hw.new 16 hb, hE, rfl⟩
      · intro ρ w a hw hG hf hd K hK
        obtain ⟨o1, o2, o3, o4, o5, o6, o7, o9, o11, o12, o13⟩ := hG
        obtain ⟨_, hf, rfl⟩ := got (hd 10 (by kernel_rfl)) hf
        obtain ⟨_, hf, rfl⟩ := got (hd 20 (by kernel_rfl)) hf
        obtain ⟨_, hf, rfl⟩ := got (hd 30 (by kernel_rfl)) hf
        exact dv_ hK hw (wn rfl) (r_build_struct (pl := [(0, 9), (9, 9), (18, 9)]) (vs := [(0, .agg (cForm.enc x36).toArray), (1, .agg (cForm.enc x38).toArray), (2, .agg (cForm.enc x40).toArray)]) (res := (cProd.enc (x36, x38, x40)).toArray) Try.underlying82 (by kernel_rfl) ze82 hf rfl rfl ((fill_lens (d := cProd) (z := zProd) lProd_0 rfl rfl).trans ((fill_lens (d := cProd) (z := (x36, zProd.2.1, zProd.2.2)) lProd_1 rfl rfl).trans ((fill_lens (d := cProd) (z := (x36, x38, zProd.2.2)) lProd_2 rfl rfl).trans rfl)))) rfl
      · intro ρ w a hw hG hf hd K hK
        obtain ⟨o1, o2, o3, o4, o5, o6, o7, o9, o11, o12, o13⟩ := hG
        obtain ⟨_, hf, rfl⟩ := got (hd 31 (by kernel_rfl)) hf
        refine dx_ hK hw (wn rfl) (r_lit (d := cProd) (xs := ([(x36, x38, x40)] : List Prod)) (vs := [.agg (cProd.enc (x36, x38, x40)).toArray]) 17 Try.underlying37 el82 (Nat.le_of_ble_eq_true rfl) (Nat.le_of_ble_eq_true rfl) hw hf rfl rfl rfl) fun v17 w' hΦ => ?_
        obtain ⟨ρ, hw, hE, o17⟩ := hΦ
        exact ⟨_, hw, hE, ex_ <| an_ rfl <| o17⟩
    intro ρ w a hw hG hf hd
    obtain ⟨o1, o2, o3, o4, o5, o6, o7, o9, o11, o12, o13⟩ := hG
    obtain ⟨_, hf, rfl⟩ := got (hd 0 (by decide)) hf
    obtain ⟨_, hf, ⟨v17, rfl, o17⟩⟩ := got (hd 32 (by decide)) hf
    obtain ⟨hc42, hF⟩ := of_guard hF
    refine sx_ hf (r_append Try.underlying37 el82 hw (by decide) o4 o17.ro hc42 hf rfl rfl) fun a va43 w hf hΦ => ?_
    obtain ⟨ρ, hw, hA, o4⟩ := hΦ
    replace o1 := o1.adv hA (by decide)
    replace o2 := o2.adv hA (by decide)
    replace o3 := o3.adv hA (by decide)
    replace o5 := o5.adv hA (by decide)
    replace o6 := o6.adv hA (by decide)
    replace o7 := o7.adv hA (by decide)
    replace o9 := o9.adv hA (by decide)
    replace o11 := o11.adv hA (by decide)
    replace o12 := o12.adv hA (by decide)
    replace o13 := o13.adv hA (by decide)
    replace o17 := o17.adv hA (by decide)
    refine s_ hf (r_assign hf rfl) fun a hf => ?_
    refine c_nil <| n_block <| n_then <| c_region ?_
    refine s_ hf (r_add hf rfl rfl) fun a hf => ?_
    refine s_ hf (r_move hf rfl) fun a hf => ?_
    refine c_nil ?_
    obtain rfl := Option.some.inj hF
    exact Rnd.goes ⟨_, _, hw, hf.sub ⟨rfl, rfl, rfl, rfl, rfl, rfl, rfl, rfl, rfl, rfl, rfl, rfl, rfl, trivial⟩, o1, o2, o3, o4, o5, o6, o7, o9, o11, o12⟩
  rintro ⟨s30, s31⟩ a w hs ⟨ρ, vv32, hw, hf, o1, o2, o3, o4⟩
  subst hs
  have hF := hG29
  dsimp only at hF
  refine x_block <| n_then <| c_seq <| c_region ?_
  refine s_ hf (r_load_agg ty39 hf rfl o1.cl rfl) fun a hf => ?_
  refine s_ hf (r_move hf rfl) fun a hf => ?_
  obtain ⟨x44, hx45, hF⟩ := of_bind hF
  refine st_mfn hf rfl rfl (by decide) (r_fn en142 hf rfl) (impl_with_ok (a0 := a0) (by decide) hw h0 o4 hx45) fun a v w ρ hf hw hA hΦ => ?_
  obtain ⟨u46, rfl, o4⟩ := hΦ
  replace o1 := o1.adv hA (by decide)
  replace o2 := o2.adv hA (by decide)
  replace o3 := o3.adv hA (by decide)
  refine sk_ hf (r_store_w (cs' := [vI x44.p, vI x44.n, vI x44.m, vI x44.k, u46]) hw o2 (by decide) ty39 rfl rfl (one_sch o4.ro.one) hf rfl rfl rfl) fun a w hf hΦ => ?_
  obtain ⟨hw, hA, o2⟩ := hΦ
  replace o1 := o1.adv hA (by decide)
  replace o3 := o3.adv hA (by decide)
  replace o4 := o4.adv hA (by decide)
  refine c_nt <| c_retc ?_
  obtain rfl := Option.some.inj hF
  refine c_ret hf (res_cell Try.results96 ty39 hf rfl o2.cl rfl) ?_
  exact ⟨_, rfl, hw.below, ⟨_, rfl, o4.out⟩⟩
/-! f143 -/
noncomputable def spec_l04All_l2  (s3 : Int) (s4 : List (List (List Int))) : Option (LR (Int × (List (List (List Int)))) (List (List (List Int)))) :=
  if (decide (s3 < 16)) = true then ((spec_l04Inverse 2 ([[w64 (s3.tdiv 8), (w64 (s3.tdiv 4)).tmod 2], [(w64 (s3.tdiv 2)).tmod 2, s3.tmod 2]])).bind fun x7 => if x7.2 = true then (if (s4.length + ([[[w64 (s3.tdiv 8), (w64 (s3.tdiv 4)).tmod 2], [(w64 (s3.tdiv 2)).tmod 2, s3.tmod 2]]]).length) * 24 ≤ 140737488355328 then (some (.next (w64 (s3 + 1), (s4 ++ [[[w64 (s3.tdiv 8), (w64 (s3.tdiv 4)).tmod 2], [(w64 (s3.tdiv 2)).tmod 2, s3.tmod 2]]])))) else none) else (some (.next (w64 (s3 + 1), s4)))) else (some (.stop (s3, s4)))
noncomputable def spec_l04All (a0 : Int) : Option (List (List (List Int))) :=
  if (decide (a0 = 1)) = true then (some ([[[1]]])) else ((iter (fun s => spec_l04All_l2  s.1 s.2) (0, ([] : List (List (List Int))))).bind fun o => match o with | .stop (s3, s4) => (some (s4)) | .ret r => some r | .next _ => none)
theorem spec_l04All_ok {w0 : World} {a0 : Int}   {r : List (List (List Int))} (hF : spec_l04All a0 = some r) :
    Calls Try.prog 143 [vI a0].toArray w0 fun e w => ∃ v, e = .returned v ∧ Below w0.heap.size w0 w ∧ ∃ u0, u0 = v ∧ Fresh (Kd.slice 36 (Kd.slice 2 (kf fI64))) 24 w0 w u0 r := by
  refine calls_of (k := 42) Try.func143 rfl rfl (Nat.le_of_ble_eq_true rfl) fun a hf => ?_
  replace hf : Fr 42 a [(0, vI a0)] := hf
  refine c_start fun w ρ hw => ?_
  unfold spec_l04All at hF
  refine c_seq <| c_region ?_
  have o1 : Ow (Kd.slice 36 (Kd.slice 2 (kf fI64))) 24 ρ w w0.heap.size 1 (.slice none 0 0) [] := Ow.nil _ _ _ _ _ _
  refine s_ hf (r_assign hf rfl) fun a hf => ?_
  refine c_nt <| c_seq <| c_seq <| c_region ?_
  refine s_ hf (r_move hf rfl) fun a hf => ?_
  refine s_ hf (r_eql hf rfl rfl) fun a hf => ?_
  refine c_nt ?_
  rcases of_ite hF with ⟨hb1, hF⟩ | ⟨hb1, hF⟩
  · refine c_ift hf rfl hb1 <| c_seq <| c_region ?_
    refine sx_ hf (r_lit (d := fI64) (xs := ([1] : List Int)) (vs := [vI 1]) 2 Try.underlying36 el2 (Nat.le_of_ble_eq_true rfl) (Nat.le_of_ble_eq_true rfl) hw hf rfl rfl rfl) fun a v2 w hf hΦ => ?_
    obtain ⟨ρ, hw, hE, o2⟩ := hΦ
    replace o1 := o1.ext hE
    refine sx_ hf (r_lit_row 3 Try.underlying24 el36 hw (by decide) hf rfl o2) fun a v3 w hf hΦ => ?_
    obtain ⟨ρ, hw, hT, hB, o3⟩ := hΦ
    replace o1 := o1.tr (hT 1 (by decide))
    refine sx_ hf (r_lit_row 4 Try.underlying100 el24 hw (by decide) hf rfl o3) fun a v4 w hf hΦ => ?_
    obtain ⟨ρ, hw, hT, hB, o4⟩ := hΦ
    replace o1 := o1.tr (hT 1 (by decide))
    refine s_ hf (r_assign hf rfl) fun a hf => ?_
    refine c_nt <| c_retc ?_
    obtain rfl := Option.some.inj hF
    refine r_then <| c_ret hf (res_tmp Try.results143 hf rfl) ?_
    exact ⟨_, rfl, hw.below, ⟨_, rfl, o4.out⟩⟩
  refine c_iff hf rfl hb1 <| c_skip <| n_then <| c_seq <| c_region ?_
  refine sx_ hf (r_lit_none (d := (Kd.slice 36 (Kd.slice 2 (kf fI64)))) 5 Try.underlying100 el24 hw) fun a v5 w hf hΦ => ?_
  obtain ⟨ρ, hw, hE, o5⟩ := hΦ
  replace o1 := o1.ext hE
  refine s_ hf (r_assign hf rfl) fun a hf => ?_
  refine c_nt <| c_seq <| c_seq <| c_region ?_
  refine s_ hf (r_assign hf rfl) fun a hf => ?_
  refine c_nt ?_
  obtain ⟨ol2, ho2, hG2⟩ := of_bind hF
  clear hF
  refine c_block (c_loop (id := 0) (fun s => spec_l04All_l2  s.1 s.2) (fun (s : Int × (List (List (List Int)))) a w => match s with | (s3, s4) => ∃ ρ vv5, Wd w0 ρ w ∧ Fr 42 a [(3, vv5), (4, vI s3)] ∧ O24 ρ w w0 5 vv5 s4) (fun (s : Int × (List (List (List Int)))) a w => match s with | (s3, s4) => ∃ ρ vv5, Wd w0 ρ w ∧ Fr 42 a [(3, vv5)] ∧ O24 ρ w w0 5 vv5 s4) ho2 ⟨_, _, hw, hf.sub ⟨rfl, rfl, trivial⟩, o5⟩ ?_ ?_)
  · rintro ⟨s3, s4⟩ lr a w ⟨ρ, vv5, hw, hf, o5⟩ hF
    replace hF : spec_l04All_l2  s3 s4 = some lr := hF
    unfold spec_l04All_l2 at hF
    refine c_seq <| c_seq <| c_region ?_
    refine s_ hf (r_move hf rfl) fun a hf => ?_
    refine s_ hf (r_lss hf rfl rfl) fun a hf => ?_
    refine c_nt ?_
    rcases of_ite hF with ⟨hb6, hF⟩ | ⟨hb6, hF⟩
    rotate_left
    · refine c_iff hf rfl hb6 <| c_exit <| x_then ?_
      obtain rfl := Option.some.inj hF
      exact Rnd.stops ⟨_, _, hw, hf.sub ⟨rfl, trivial⟩, o5⟩
    refine c_ift hf rfl hb6 <| c_skip <| n_then <| c_seq <| c_block <| c_seq <| c_region ?_
    refine s_ hf (r_move hf rfl) fun a hf => ?_
    refine s_ hf (r_quo hf rfl rfl (by decide)) fun a hf => ?_
    refine s_ hf (r_move hf rfl) fun a hf => ?_
    refine s_ hf (r_quo hf rfl rfl (by decide)) fun a hf => ?_
    refine s_ hf (r_rem hf rfl rfl (by decide)) fun a hf => ?_
    refine sx_ hf (r_lit (d := fI64) (xs := ([w64 (s3.tdiv 8), (w64 (s3.tdiv 4)).tmod 2] : List Int)) (vs := [vI (w64 (s3.tdiv 8)), vI ((w64 (s3.tdiv 4)).tmod 2)]) 6 Try.underlying36 el2 (Nat.le_of_ble_eq_true rfl) (Nat.le_of_ble_eq_true rfl) hw hf rfl rfl rfl) fun a v6 w hf hΦ => ?_
    obtain ⟨ρ, hw, hE, o6⟩ := hΦ
    replace o5 := o5.ext hE
    refine s_ hf (r_move hf rfl) fun a hf => ?_
    refine s_ hf (r_quo hf rfl rfl (by decide)) fun a hf => ?_
    refine s_ hf (r_rem hf rfl rfl (by decide)) fun a hf => ?_
    refine s_ hf (r_move hf rfl) fun a hf => ?_
    refine s_ hf (r_rem hf rfl rfl (by decide)) fun a hf => ?_
    refine sx_ hf (r_lit (d := fI64) (xs := ([(w64 (s3.tdiv 2)).tmod 2, s3.tmod 2] : List Int)) (vs := [vI ((w64 (s3.tdiv 2)).tmod 2), vI (s3.tmod 2)]) 7 Try.underlying36 el2 (Nat.le_of_ble_eq_true rfl) (Nat.le_of_ble_eq_true rfl) hw hf rfl rfl rfl) fun a v7 w hf hΦ => ?_
    obtain ⟨ρ, hw, hE, o7⟩ := hΦ
    replace o5 := o5.ext hE
    replace o6 := o6.ext hE
    refine sx_ hf (r_lit_row2 8 Try.underlying24 el36 hw (by decide) (by decide) hf rfl rfl o6 o7) fun a v8 w hf hΦ => ?_
    obtain ⟨ρ, hw, hT, hB, o8⟩ := hΦ
    replace o5 := o5.tr (hT 5 (by decide) (by decide))
    refine s_ hf (r_assign hf rfl) fun a hf => ?_
    refine c_nt <| c_seq <| c_region ?_
    refine s_ hf (r_move hf rfl) fun a hf => ?_
    obtain ⟨x7, hx8, hF⟩ := of_bind hF
    refine st_fn 9 hw hf rfl rfl (by decide) (r_fn en57 hf rfl) (spec_l04Inverse_ok o8.ro hx8) fun a v w ρ hf hw hE hN hΦ => ?_
    obtain ⟨u9, rfl, hr10⟩ := hΦ
    replace o5 := o5.ext hE
    replace o8 := o8.ext hE
    have o9 := hN hr10
    refine s_ hf (r_move hf rfl) fun a hf => ?_
    refine s_ hf (r_extract hf rfl rfl) fun a hf => ?_
    refine s_ hf (r_extract hf rfl rfl) fun a hf => ?_
    refine s_ hf (r_assign hf rfl) fun a hf => ?_
    refine s_ hf (r_assign hf rfl) fun a hf => ?_
    refine c_nt <| c_seq <| c_region ?_
    refine s_ hf (r_move hf rfl) fun a hf => ?_
    refine c_nt ?_
    rcases of_ite hF with ⟨hb11, hF⟩ | ⟨hb11, hF⟩
    rotate_left
    · refine c_iff hf rfl hb11 <| c_skip <| n_block <| n_then <| c_region ?_
      refine s_ hf (r_move hf rfl) fun a hf => ?_
      refine s_ hf (r_add hf rfl rfl) fun a hf => ?_
      refine s_ hf (r_assign hf rfl) fun a hf => ?_
      refine c_nil ?_
      obtain rfl := Option.some.inj hF
      exact Rnd.goes ⟨_, _, hw, hf.sub ⟨rfl, rfl, trivial⟩, o5⟩
    refine c_ift hf rfl hb11 <| c_region ?_
    refine s_ hf (r_move hf rfl) fun a hf => ?_
    refine s_ hf (r_move hf rfl) fun a hf => ?_
    refine sx_ hf (r_lit_row 10 Try.underlying100 el24 hw (by decide) hf rfl o8) fun a v10 w hf hΦ => ?_
    obtain ⟨ρ, hw, hT, hB, o10⟩ := hΦ
    replace o5 := o5.tr (hT 5 (by decide))
    replace o9 := o9.tr (hT 9 (by decide))
    obtain ⟨hc12, hF⟩ := of_guard hF
    refine sx_ hf (r_append_own Try.underlying100 el24 hw (by decide) (by decide) (by decide) o5 o10 hc12 hf rfl rfl) fun a va13 w hf hΦ => ?_
    obtain ⟨ρ, hw, hT, o5⟩ := hΦ
    replace o9 := o9.tr (hT 9 (by decide) (by decide))
    refine s_ hf (r_assign hf rfl) fun a hf => ?_
    refine c_nil <| n_block <| n_then <| c_region ?_
    refine s_ hf (r_move hf rfl) fun a hf => ?_
    refine s_ hf (r_add hf rfl rfl) fun a hf => ?_
    refine s_ hf (r_assign hf rfl) fun a hf => ?_
    refine c_nil ?_
    obtain rfl := Option.some.inj hF
    exact Rnd.goes ⟨_, _, hw, hf.sub ⟨rfl, rfl, trivial⟩, o5⟩
  rintro ⟨s3, s4⟩ a w hs ⟨ρ, vv5, hw, hf, o5⟩
  subst hs
  have hF := hG2
  dsimp only at hF
  refine x_block <| n_then <| c_seq <| c_region ?_
  refine s_ hf (r_move hf rfl) fun a hf => ?_
  refine s_ hf (r_assign hf rfl) fun a hf => ?_
  refine c_nt <| c_retc ?_
  obtain rfl := Option.some.inj hF
  refine c_ret hf (res_tmp Try.results143 hf rfl) ?_
  exact ⟨_, rfl, hw.below, ⟨_, rfl, o5.out⟩⟩
/-! f147 -/
noncomputable def impl_invertibles_l7 (a0 : Int) (s3 : Int) (s8 : Int) (s9 : List Int) : Option (LR (Int × (List Int)) (List (List (List Int)))) :=
  if (decide (s8 < (w64 (a0 * a0)))) = true then (if 0 ≤ s8 then (if (s9.length + ([and64 (shr64 s3 s8) (1 : Int)]).length) * 8 ≤ 140737488355328 then (some (.next (w64 (s8 + 1), (s9 ++ [and64 (shr64 s3 s8) (1 : Int)])))) else none) else none) else (some (.stop (s8, s9)))
noncomputable def impl_invertibles_l2 (a0 : Int) (s3 : Int) (s4 : List (List (List Int))) : Option (LR (Int × (List (List (List Int)))) (List (List (List Int)))) :=
  if (decide (s3 < (shl64 (1 : Int) (w64 (a0 * a0))))) = true then ((iter (fun s => impl_invertibles_l7 a0 s3 s.1 s.2) (0, ([] : List Int))).bind fun o => match o with | .stop (s8, s9) => ((impl_parted s9 a0).bind fun x15 => (impl_isInvertible 2 x15).bind fun x19 => if x19 = true then (if (s4.length + ([x15]).length) * 24 ≤ 140737488355328 then (some (.next (w64 (s3 + 1), (s4 ++ [x15])))) else none) else (some (.next (w64 (s3 + 1), s4)))) | .ret r => some (.ret r) | .next _ => none) else (some (.stop (s3, s4)))
noncomputable def impl_invertibles (a0 : Int) : Option (List (List (List Int))) :=
  if 0 ≤ (w64 (a0 * a0)) then ((iter (fun s => impl_invertibles_l2 a0 s.1 s.2) (0, ([] : List (List (List Int))))).bind fun o => match o with | .stop (s3, s4) => (some (s4)) | .ret r => some r | .next _ => none) else none
theorem impl_invertibles_ok {w0 : World} {a0 : Int}   {r : List (List (List Int))} (hF : impl_invertibles a0 = some r) :
    Calls Try.prog 147 [vI a0].toArray w0 fun e w => ∃ v, e = .returned v ∧ Below w0.heap.size w0 w ∧ ∃ u0, u0 = v ∧ Fresh (Kd.slice 36 (Kd.slice 2 (kf fI64))) 24 w0 w u0 r := by
  refine calls_of (k := 42) Try.func147 rfl rfl (Nat.le_of_ble_eq_true rfl) fun a hf => ?_
  replace hf : Fr 42 a [(0, vI a0)] := hf
  refine c_start fun w ρ hw => ?_
  unfold impl_invertibles at hF
  refine c_seq <| c_region ?_
  have o1 : Ow (Kd.slice 36 (Kd.slice 2 (kf fI64))) 24 ρ w w0.heap.size 1 (.slice none 0 0) [] := Ow.nil _ _ _ _ _ _
  refine s_ hf (r_assign hf rfl) fun a hf => ?_
  refine c_nt <| c_seq <| c_region ?_
  refine sx_ hf (r_lit_none (d := (Kd.slice 36 (Kd.slice 2 (kf fI64)))) 2 Try.underlying100 el24 hw) fun a v2 w hf hΦ => ?_
  obtain ⟨ρ, hw, hE, o2⟩ := hΦ
  replace o1 := o1.ext hE
  refine s_ hf (r_assign hf rfl) fun a hf => ?_
  refine c_nt <| c_seq <| c_seq <| c_region ?_
  refine s_ hf (r_move hf rfl) fun a hf => ?_
  refine s_ hf (r_move hf rfl) fun a hf => ?_
  refine s_ hf (r_mul hf rfl rfl) fun a hf => ?_
  obtain ⟨hc1, hF⟩ := of_guard hF
  refine s_ hf (r_shl hf rfl rfl hc1) fun a hf => ?_
  refine s_ hf (r_move hf rfl) fun a hf => ?_
  refine c_nt ?_
  obtain ⟨ol2, ho2, hG2⟩ := of_bind hF
  clear hF
  refine c_block (c_loop (id := 0) (fun s => impl_invertibles_l2 a0 s.1 s.2) (fun (s : Int × (List (List (List Int)))) a w => match s with | (s3, s4) => ∃ ρ vv5, Wd w0 ρ w ∧ Fr 42 a [(0, vI a0), (3, vv5), (12, vI (shl64 (1 : Int) (w64 (a0 * a0)))), (13, vI s3)] ∧ O24 ρ w w0 2 vv5 s4) (fun (s : Int × (List (List (List Int)))) a w => match s with | (s3, s4) => ∃ ρ vv5, Wd w0 ρ w ∧ Fr 42 a [(3, vv5)] ∧ O24 ρ w w0 2 vv5 s4) ho2 ⟨_, _, hw, hf.sub ⟨rfl, rfl, rfl, rfl, trivial⟩, o2⟩ ?_ ?_)
  · rintro ⟨s3, s4⟩ lr a w ⟨ρ, vv5, hw, hf, o2⟩ hF
    replace hF : impl_invertibles_l2 a0 s3 s4 = some lr := hF
    unfold impl_invertibles_l2 at hF
    refine c_seq <| c_region ?_
    refine s_ hf (r_lss hf rfl rfl) fun a hf => ?_
    refine c_nt <| c_seq ?_
    rcases of_ite hF with ⟨hb6, hF⟩ | ⟨hb6, hF⟩
    rotate_left
    · refine c_iff hf rfl hb6 <| c_exit <| x_then ?_
      obtain rfl := Option.some.inj hF
      exact Rnd.stops ⟨_, _, hw, hf.sub ⟨rfl, trivial⟩, o2⟩
    refine c_ift hf rfl hb6 <| c_skip <| n_then <| c_seq <| c_block <| c_seq <| c_region ?_
    refine s_ hf (r_move hf rfl) fun a hf => ?_
    refine s_ hf (r_assign hf rfl) fun a hf => ?_
    refine c_nt <| c_seq <| c_region ?_
    refine sx_ hf (r_lit (d := fI64) (xs := ([] : List Int)) (vs := []) 3 Try.underlying36 el2 (Nat.le_of_ble_eq_true rfl) (Nat.le_of_ble_eq_true rfl) hw hf rfl rfl rfl) fun a v3 w hf hΦ => ?_
    obtain ⟨ρ, hw, hE, o3⟩ := hΦ
    replace o2 := o2.ext hE
    refine s_ hf (r_assign hf rfl) fun a hf => ?_
    refine c_nt <| c_seq <| c_seq <| c_region ?_
    refine s_ hf (r_move hf rfl) fun a hf => ?_
    refine s_ hf (r_move hf rfl) fun a hf => ?_
    refine s_ hf (r_mul hf rfl rfl) fun a hf => ?_
    refine s_ hf (r_move hf rfl) fun a hf => ?_
    refine c_nt ?_
    obtain ⟨ol7, ho7, hG7⟩ := of_bind hF
    clear hF
    refine c_block (c_loop (id := 2) (fun s => impl_invertibles_l7 a0 s3 s.1 s.2) (fun (s : Int × (List Int)) a w => match s with | (s8, s9) => ∃ ρ vv10, Wd w0 ρ w ∧ Fr 42 a [(0, vI a0), (3, vv5), (4, vI s3), (5, vv10), (12, vI (shl64 (1 : Int) (w64 (a0 * a0)))), (13, vI s3), (19, vI (w64 (a0 * a0))), (20, vI s8)] ∧ O24 ρ w w0 2 vv5 s4 ∧ O2 ρ w w0 3 vv10 s9) (fun (s : Int × (List Int)) a w => match s with | (s8, s9) => ∃ ρ vv10, Wd w0 ρ w ∧ Fr 42 a [(0, vI a0), (3, vv5), (5, vv10), (12, vI (shl64 (1 : Int) (w64 (a0 * a0)))), (13, vI s3)] ∧ O24 ρ w w0 2 vv5 s4 ∧ O2 ρ w w0 3 vv10 s9) ho7 ⟨_, _, hw, hf.sub ⟨rfl, rfl, rfl, rfl, rfl, rfl, rfl, rfl, trivial⟩, o2, o3⟩ ?_ ?_)
    · rintro ⟨s8, s9⟩ lr a w ⟨ρ, vv10, hw, hf, o2, o3⟩ hF
      replace hF : impl_invertibles_l7 a0 s3 s8 s9 = some lr := hF
      unfold impl_invertibles_l7 at hF
      refine c_seq <| c_region ?_
      refine s_ hf (r_lss hf rfl rfl) fun a hf => ?_
      refine c_nt <| c_seq ?_
      rcases of_ite hF with ⟨hb11, hF⟩ | ⟨hb11, hF⟩
      rotate_left
      · refine c_iff hf rfl hb11 <| c_exit <| x_then ?_
        obtain rfl := Option.some.inj hF
        exact Rnd.stops ⟨_, _, hw, hf.sub ⟨rfl, rfl, rfl, rfl, rfl, trivial⟩, o2, o3⟩
      refine c_ift hf rfl hb11 <| c_skip <| n_then <| c_seq <| c_block <| c_seq <| c_region ?_
      refine s_ hf (r_move hf rfl) fun a hf => ?_
      refine s_ hf (r_assign hf rfl) fun a hf => ?_
      refine c_nt <| c_region ?_
      refine s_ hf (r_move hf rfl) fun a hf => ?_
      refine s_ hf (r_move hf rfl) fun a hf => ?_
      refine s_ hf (r_move hf rfl) fun a hf => ?_
      obtain ⟨hc12, hF⟩ := of_guard hF
      refine s_ hf (r_shr hf rfl rfl hc12) fun a hf => ?_
      refine s_ hf (r_and hf rfl rfl) fun a hf => ?_
      refine sx_ hf (r_lit (d := fI64) (xs := ([and64 (shr64 s3 s8) (1 : Int)] : List Int)) (vs := [vI (and64 (shr64 s3 s8) (1 : Int))]) 4 Try.underlying36 el2 (Nat.le_of_ble_eq_true rfl) (Nat.le_of_ble_eq_true rfl) hw hf rfl rfl rfl) fun a v4 w hf hΦ => ?_
      obtain ⟨ρ, hw, hE, o4⟩ := hΦ
      replace o2 := o2.ext hE
      replace o3 := o3.ext hE
      obtain ⟨hc13, hF⟩ := of_guard hF
      refine sx_ hf (r_append Try.underlying36 el2 hw (by decide) o3 o4.ro hc13 hf rfl rfl) fun a va14 w hf hΦ => ?_
      obtain ⟨ρ, hw, hA, o3⟩ := hΦ
      replace o2 := o2.adv hA (by decide)
      replace o4 := o4.adv hA (by decide)
      refine s_ hf (r_assign hf rfl) fun a hf => ?_
      refine c_nil <| n_block <| n_then <| c_region ?_
      refine s_ hf (r_add hf rfl rfl) fun a hf => ?_
      refine s_ hf (r_move hf rfl) fun a hf => ?_
      refine c_nil ?_
      obtain rfl := Option.some.inj hF
      exact Rnd.goes ⟨_, _, hw, hf.sub ⟨rfl, rfl, rfl, rfl, rfl, rfl, rfl, rfl, trivial⟩, o2, o3⟩
    rintro ⟨s8, s9⟩ a w hs ⟨ρ, vv10, hw, hf, o2, o3⟩
    subst hs
    have hF := hG7
    dsimp only at hF
    refine x_block <| n_then <| c_seq <| c_region ?_
    refine s_ hf (r_move hf rfl) fun a hf => ?_
    refine s_ hf (r_move hf rfl) fun a hf => ?_
    obtain ⟨x15, hx16, hF⟩ := of_bind hF
    refine st_fn 5 hw hf rfl rfl (by decide) (r_fn en164 hf rfl) (impl_parted_ok o3.ro hx16) fun a v w ρ hf hw hE hN hΦ => ?_
    obtain ⟨u17, rfl, hr18⟩ := hΦ
    replace o2 := o2.ext hE
    replace o3 := o3.ext hE
    have o5 := hN hr18
    refine s_ hf (r_assign hf rfl) fun a hf => ?_
    refine c_nt <| c_seq <| c_region ?_
    refine s_ hf (r_move hf rfl) fun a hf => ?_
    obtain ⟨x19, hx20, hF⟩ := of_bind hF
    refine st_fn 6 hw hf rfl rfl (by decide) (r_fn en54 hf rfl) (impl_isInvertible_ok o5.ro hx20) fun a v w ρ hf hw hE hN hΦ => ?_
    obtain rfl := hΦ
    replace o2 := o2.ext hE
    replace o3 := o3.ext hE
    replace o5 := o5.ext hE
    refine c_nt ?_
    rcases of_ite hF with ⟨hb21, hF⟩ | ⟨hb21, hF⟩
    rotate_left
    · refine c_iff hf rfl hb21 <| c_skip <| n_block <| n_then <| c_region ?_
      refine s_ hf (r_add hf rfl rfl) fun a hf => ?_
      refine s_ hf (r_move hf rfl) fun a hf => ?_
      refine c_nil ?_
      obtain rfl := Option.some.inj hF
      exact Rnd.goes ⟨_, _, hw, hf.sub ⟨rfl, rfl, rfl, rfl, trivial⟩, o2⟩
    refine c_ift hf rfl hb21 <| c_region ?_
    refine s_ hf (r_move hf rfl) fun a hf => ?_
    refine s_ hf (r_move hf rfl) fun a hf => ?_
    refine sx_ hf (r_lit_row 7 Try.underlying100 el24 hw (by decide) hf rfl o5) fun a v7 w hf hΦ => ?_
    obtain ⟨ρ, hw, hT, hB, o7⟩ := hΦ
    replace o2 := o2.tr (hT 2 (by decide))
    replace o3 := o3.tr (hT 3 (by decide))
    obtain ⟨hc22, hF⟩ := of_guard hF
    refine sx_ hf (r_append_own Try.underlying100 el24 hw (by decide) (by decide) (by decide) o2 o7 hc22 hf rfl rfl) fun a va23 w hf hΦ => ?_
    obtain ⟨ρ, hw, hT, o2⟩ := hΦ
    replace o3 := o3.tr (hT 3 (by decide) (by decide))
    refine s_ hf (r_assign hf rfl) fun a hf => ?_
    refine c_nil <| n_block <| n_then <| c_region ?_
    refine s_ hf (r_add hf rfl rfl) fun a hf => ?_
    refine s_ hf (r_move hf rfl) fun a hf => ?_
    refine c_nil ?_
    obtain rfl := Option.some.inj hF
    exact Rnd.goes ⟨_, _, hw, hf.sub ⟨rfl, rfl, rfl, rfl, trivial⟩, o2⟩
  rintro ⟨s3, s4⟩ a w hs ⟨ρ, vv5, hw, hf, o2⟩
  subst hs
  have hF := hG2
  dsimp only at hF
  refine x_block <| n_then <| c_seq <| c_region ?_
  refine s_ hf (r_move hf rfl) fun a hf => ?_
  refine s_ hf (r_assign hf rfl) fun a hf => ?_
  refine c_nt <| c_retc ?_
  obtain rfl := Option.some.inj hF
  refine c_ret hf (res_tmp Try.results147 hf rfl) ?_
  exact ⟨_, rfl, hw.below, ⟨_, rfl, o2.out⟩⟩
/-! f145 -/
noncomputable def spec_l01Less_l4 (a0 : Prod) (a1 : Prod) (s2 : Int) (s5 : Int) : Option (LR Int Bool) :=
  if (decide (s5 < 9)) = true then (if 0 ≤ s2 ∧ s2 < 3 then (if 0 ≤ s5 ∧ s5 < 9 then (if (decide (((vg 0 (vg zForm (#v[a0.1, a0.2.1, a0.2.2] : Forms) s2) s5).toNat : Int) ≠ ((vg 0 (vg zForm (#v[a1.1, a1.2.1, a1.2.2] : Forms) s2) s5).toNat : Int))) = true then (some (.ret (decide (((vg 0 (vg zForm (#v[a0.1, a0.2.1, a0.2.2] : Forms) s2) s5).toNat : Int) < ((vg 0 (vg zForm (#v[a1.1, a1.2.1, a1.2.2] : Forms) s2) s5).toNat : Int))))) else (some (.next (w64 (s5 + 1))))) else none) else none) else (some (.stop s5))
noncomputable def spec_l01Less_l1 (a0 : Prod) (a1 : Prod) (s2 : Int) : Option (LR Int Bool) :=
  if (decide (s2 < 3)) = true then ((iter (fun s => spec_l01Less_l4 a0 a1 s2 s) 0).bind fun o => match o with | .stop s5 => (some (.next (w64 (s2 + 1)))) | .ret r => some (.ret r) | .next _ => none) else (some (.stop s2))
noncomputable def spec_l01Less (a0 : Prod) (a1 : Prod) : Option Bool :=
  (iter (fun s => spec_l01Less_l1 a0 a1 s) 0).bind fun o => match o with | .stop s2 => (some (false)) | .ret r => some r | .next _ => none
theorem spec_l01Less_ok {w0 : World} {a0 : Prod} {a1 : Prod}   {r : Bool} (hF : spec_l01Less a0 a1 = some r) :
    Calls Try.prog 145 [.agg (cProd.enc a0).toArray, .agg (cProd.enc a1).toArray].toArray w0 fun e w => ∃ v, e = .returned v ∧ Below w0.heap.size w0 w ∧ .bool r = v := by
  refine calls_of (k := 53) Try.func145 rfl rfl (Nat.le_of_ble_eq_true rfl) fun a hf => ?_
  replace hf : Fr 53 a [(0, .agg (cProd.enc a0).toArray), (1, .agg (cProd.enc a1).toArray)] := hf
  refine c_start fun w ρ hw => ?_
  unfold spec_l01Less at hF
  refine c_seq <| c_region ?_
  refine sx_ hf (r_box (cs := cProd.enc a0) 1 hw hf rfl rfl) fun a v w hf hΦ => ?_
  obtain ⟨g1, ρ, rfl, hw, hE, o1⟩ := hΦ
  refine sx_ hf (r_box (cs := cProd.enc a1) 2 hw hf rfl rfl) fun a v w hf hΦ => ?_
  obtain ⟨g2, ρ, rfl, hw, hE, o2⟩ := hΦ
  replace o1 := o1.ext hE
  refine s_ hf (r_assign hf rfl) fun a hf => ?_
  refine c_nt <| c_seq ?_
  replace hf : Fr 53 a [(2, .pointer (some ((⟨g1, 0, none⟩ : Addr).add 0))), (3, .pointer (some ((⟨g2, 0, none⟩ : Addr).add 0)))] := hf.sub ⟨rfl, rfl, trivial⟩
  refine c_stage 17 [16] mixed (by kernel_rfl) (by kernel_rfl) (fun c ρ w => Va ρ w 1 g1 82 (cProd.enc a0) ∧ Va ρ w 2 g2 82 (cProd.enc a1)) ?_ [fun c ρ w v => .pointer (some ((⟨g1, 0, none⟩ : Addr).add (0 + 0))) = v, fun c ρ w v => .agg (cForm.enc a0.1).toArray = v, fun c ρ w v => .pointer (some ((⟨g1, 0, none⟩ : Addr).add (0 + 9))) = v, fun c ρ w v => .agg (cForm.enc a0.2.1).toArray = v, fun c ρ w v => .pointer (some ((⟨g1, 0, none⟩ : Addr).add (0 + 18))) = v, fun c ρ w v => .agg (cForm.enc a0.2.2).toArray = v, fun c ρ w v => .agg (cForms.enc (#v[a0.1, a0.2.1, a0.2.2] : Forms)).toArray = v, fun c ρ w v => .pointer (some ((⟨g2, 0, none⟩ : Addr).add (0 + 0))) = v, fun c ρ w v => .agg (cForm.enc a1.1).toArray = v, fun c ρ w v => .pointer (some ((⟨g2, 0, none⟩ : Addr).add (0 + 9))) = v, fun c ρ w v => .agg (cForm.enc a1.2.1).toArray = v, fun c ρ w v => .pointer (some ((⟨g2, 0, none⟩ : Addr).add (0 + 18))) = v, fun c ρ w v => .agg (cForm.enc a1.2.2).toArray = v, fun c ρ w v => .agg (cForms.enc (#v[a1.1, a1.2.1, a1.2.2] : Forms)).toArray = v, fun c ρ w v => ∃ g3, .pointer (some ((⟨g3, 0, none⟩ : Addr).add 0)) = v ∧ (c ≤ 0 → Va ρ w 3 g3 154 (cForms.enc zForms)) ∧ (0 < c → Va ρ w 3 g3 154 (cForms.enc (#v[a0.1, a0.2.1, a0.2.2] : Forms))), fun c ρ w v => ∃ g4, .pointer (some ((⟨g4, 0, none⟩ : Addr).add 0)) = v ∧ Va ρ w 4 g4 154 (cForms.enc zForms), fun _ _ _ _ => True] ?_ hw ⟨o1, o2⟩ hf ?_ ?_
  · intro c ρ w ρ' w' hE hG
    obtain ⟨o1, o2⟩ := hG
    exact ⟨o1.ext hE, o2.ext hE⟩
  · exact LastsS.cons (fun _ _ _ _ _ _ _ h => h) <| LastsS.cons (fun _ _ _ _ _ _ _ h => h) <| LastsS.cons (fun _ _ _ _ _ _ _ h => h) <| LastsS.cons (fun _ _ _ _ _ _ _ h => h) <| LastsS.cons (fun _ _ _ _ _ _ _ h => h) <| LastsS.cons (fun _ _ _ _ _ _ _ h => h) <| LastsS.cons (fun _ _ _ _ _ _ _ h => h) <| LastsS.cons (fun _ _ _ _ _ _ _ h => h) <| LastsS.cons (fun _ _ _ _ _ _ _ h => h) <| LastsS.cons (fun _ _ _ _ _ _ _ h => h) <| LastsS.cons (fun _ _ _ _ _ _ _ h => h) <| LastsS.cons (fun _ _ _ _ _ _ _ h => h) <| LastsS.cons (fun _ _ _ _ _ _ _ h => h) <| LastsS.cons (fun _ _ _ _ _ _ _ h => h) <| LastsS.cons (fun c _ _ _ _ _ hE h => by obtain ⟨g3, h, hx, hy⟩ := h; exact ⟨_, h, fun h => (hx h).ext hE, (fun h => by obtain o3 := hy h; exact o3.ext hE)⟩) <| LastsS.cons (fun c _ _ _ _ _ hE h => by obtain ⟨g4, h, o4⟩ := h; exact ⟨_, h, o4.ext hE⟩) <| LastsS.cons (fun _ _ _ _ _ _ _ h => h) <| LastsS.nil
  · refine StepsS.float rfl ?_ <| StepsS.float rfl ?_ <| StepsS.float rfl ?_ <| StepsS.float rfl ?_ <| StepsS.float rfl ?_ <| StepsS.float rfl ?_ <| StepsS.float rfl ?_ <| StepsS.float rfl ?_ <| StepsS.float rfl ?_ <| StepsS.float rfl ?_ <| StepsS.float rfl ?_ <| StepsS.float rfl ?_ <| StepsS.float rfl ?_ <| StepsS.float rfl ?_ <| StepsS.float rfl ?_ <| StepsS.float rfl ?_ <| StepsS.main 0 rfl rfl ?_ <| StepsS.nil
    · intro c ρ w a hs hw hG hf hd K hK
      obtain ⟨o1, o2⟩ := hG
      exact dv_ hK hw (wn rfl) (r_fa fa82_0 hf rfl) rfl
    · intro c ρ w a hs hw hG hf hd K hK
      obtain ⟨o1, o2⟩ := hG
      obtain ⟨_, ht0, rfl⟩ := hd 0 (by kernel_rfl) (by kernel_rfl)
      replace hf := hf.more ht0
      exact dv_ hK hw (wn rfl) (r_load_agg ty80 hf rfl (o1.cl.lens lProd_0) (cForm.len _)) rfl
    · intro c ρ w a hs hw hG hf hd K hK
      obtain ⟨o1, o2⟩ := hG
      exact dv_ hK hw (wn rfl) (r_fa fa82_1 hf rfl) rfl
    · intro c ρ w a hs hw hG hf hd K hK
      obtain ⟨o1, o2⟩ := hG
      obtain ⟨_, ht2, rfl⟩ := hd 2 (by kernel_rfl) (by kernel_rfl)
      replace hf := hf.more ht2
      exact dv_ hK hw (wn rfl) (r_load_agg ty80 hf rfl (o1.cl.lens lProd_1) (cForm.len _)) rfl
    · intro c ρ w a hs hw hG hf hd K hK
      obtain ⟨o1, o2⟩ := hG
      exact dv_ hK hw (wn rfl) (r_fa fa82_2 hf rfl) rfl
    · intro c ρ w a hs hw hG hf hd K hK
      obtain ⟨o1, o2⟩ := hG
      obtain ⟨_, ht4, rfl⟩ := hd 4 (by kernel_rfl) (by kernel_rfl)
      replace hf := hf.more ht4
      exact dv_ hK hw (wn rfl) (r_load_agg ty80 hf rfl (o1.cl.lens lProd_2) (cForm.len _)) rfl
    · intro c ρ w a hs hw hG hf hd K hK
      obtain ⟨o1, o2⟩ := hG
      obtain ⟨_, ht1, rfl⟩ := hd 1 (by kernel_rfl) (by kernel_rfl)
      replace hf := hf.more ht1
      obtain ⟨_, ht3, rfl⟩ := hd 3 (by kernel_rfl) (by kernel_rfl)
      replace hf := hf.more ht3
      obtain ⟨_, ht5, rfl⟩ := hd 5 (by kernel_rfl) (by kernel_rfl)
      replace hf := hf.more ht5
      exact dv_ hK hw (wn rfl) (r_build_arr (vs := [(0, .agg (cForm.enc a0.1).toArray), (1, .agg (cForm.enc a0.2.1).toArray), (2, .agg (cForm.enc a0.2.2).toArray)]) (res := (cForms.enc (#v[a0.1, a0.2.1, a0.2.2] : Forms)).toArray) Try.underlying154 sz80 ze154 hf rfl rfl ((fill_lens (d := cForms) (z := zForms) (Lens.vec zForm cForm (0 : Int) (by decide) (by decide)) rfl rfl).trans ((fill_lens (d := cForms) (z := vs zForms 0 a0.1) (Lens.vec zForm cForm (1 : Int) (by decide) (by decide)) rfl rfl).trans ((fill_lens (d := cForms) (z := vs (vs zForms 0 a0.1) 1 a0.2.1) (Lens.vec zForm cForm (2 : Int) (by decide) (by decide)) rfl rfl).trans rfl)))) rfl
    · intro c ρ w a hs hw hG hf hd K hK
      obtain ⟨o1, o2⟩ := hG
      exact dv_ hK hw (wn rfl) (r_fa fa82_0 hf rfl) rfl
    · intro c ρ w a hs hw hG hf hd K hK
      obtain ⟨o1, o2⟩ := hG
      obtain ⟨_, ht7, rfl⟩ := hd 7 (by kernel_rfl) (by kernel_rfl)
      replace hf := hf.more ht7
      exact dv_ hK hw (wn rfl) (r_load_agg ty80 hf rfl (o2.cl.lens lProd_0) (cForm.len _)) rfl
    · intro c ρ w a hs hw hG hf hd K hK
      obtain ⟨o1, o2⟩ := hG
      exact dv_ hK hw (wn rfl) (r_fa fa82_1 hf rfl) rfl
    · intro c ρ w a hs hw hG hf hd K hK
      obtain ⟨o1, o2⟩ := hG
      obtain ⟨_, ht9, rfl⟩ := hd 9 (by kernel_rfl) (by kernel_rfl)
      replace hf := hf.more ht9
      exact dv_ hK hw (wn rfl) (r_load_agg ty80 hf rfl (o2.cl.lens lProd_1) (cForm.len _)) rfl
    · intro c ρ w a hs hw hG hf hd K hK
      obtain ⟨o1, o2⟩ := hG
      exact dv_ hK hw (wn rfl) (r_fa fa82_2 hf rfl) rfl
    · intro c ρ w a hs hw hG hf hd K hK
      obtain ⟨o1, o2⟩ := hG
      obtain ⟨_, ht11, rfl⟩ := hd 11 (by kernel_rfl) (by kernel_rfl)
      replace hf := hf.more ht11
      exact dv_ hK hw (wn rfl) (r_load_agg ty80 hf rfl (o2.cl.lens lProd_2) (cForm.len _)) rfl
    · intro c ρ w a hs hw hG hf hd K hK
      obtain ⟨o1, o2⟩ := hG
      obtain ⟨_, ht8, rfl⟩ := hd 8 (by kernel_rfl) (by kernel_rfl)
      replace hf := hf.more ht8
      obtain ⟨_, ht10, rfl⟩ := hd 10 (by kernel_rfl) (by kernel_rfl)
      replace hf := hf.more ht10
      obtain ⟨_, ht12, rfl⟩ := hd 12 (by kernel_rfl) (by kernel_rfl)
      replace hf := hf.more ht12
      exact dv_ hK hw (wn rfl) (r_build_arr (vs := [(0, .agg (cForm.enc a1.1).toArray), (1, .agg (cForm.enc a1.2.1).toArray), (2, .agg (cForm.enc a1.2.2).toArray)]) (res := (cForms.enc (#v[a1.1, a1.2.1, a1.2.2] : Forms)).toArray) Try.underlying154 sz80 ze154 hf rfl rfl ((fill_lens (d := cForms) (z := zForms) (Lens.vec zForm cForm (0 : Int) (by decide) (by decide)) rfl rfl).trans ((fill_lens (d := cForms) (z := vs zForms 0 a1.1) (Lens.vec zForm cForm (1 : Int) (by decide) (by decide)) rfl rfl).trans ((fill_lens (d := cForms) (z := vs (vs zForms 0 a1.1) 1 a1.2.1) (Lens.vec zForm cForm (2 : Int) (by decide) (by decide)) rfl rfl).trans rfl)))) rfl
    · intro c ρ w a hs hw hG hf hd K hK
      obtain ⟨o1, o2⟩ := hG
      refine dx_ hK hw (wn rfl) (r_alloc (cs := cForms.enc zForms) 3 ze154 rfl hw) fun v w' hΦ => ?_
      obtain ⟨g3, ρ, rfl, hw, hE, o3⟩ := hΦ
      exact ⟨_, hw, hE, ex_ <| an_ rfl <| an_ (fun _ => o3) <| fun hc => absurd (hs 0 (by decide) (by kernel_rfl)) (Nat.not_le_of_lt hc)⟩
    · intro c ρ w a hs hw hG hf hd K hK
      obtain ⟨o1, o2⟩ := hG
      refine dx_ hK hw (wn rfl) (r_alloc (cs := cForms.enc zForms) 4 ze154 rfl hw) fun v w' hΦ => ?_
      obtain ⟨g4, ρ, rfl, hw, hE, o4⟩ := hΦ
      exact ⟨_, hw, hE, ex_ <| an_ rfl <| o4⟩
    · intro ρ w a S hw hG hf hS hdep hSi K hK
      obtain ⟨o1, o2⟩ := hG
      have hfL := hf
      obtain ⟨_, ht6, rfl⟩ := hS 6 (by decide) (hdep 6 (by kernel_rfl)) (by kernel_rfl)
      replace hf := hf.more ht6
      obtain ⟨_, ht14, g3, rfl, hx14, hy14⟩ := hS 14 (by decide) (hdep 14 (by kernel_rfl)) (by kernel_rfl)
      have o3 := hx14 (by decide)
      replace hf := hf.more ht14
      refine m_skip (Γ := fun c ρ w => Va ρ w 1 g1 82 (cProd.enc a0) ∧ Va ρ w 2 g2 82 (cProd.enc a1)) (Rl := [fun c ρ w v => .pointer (some ((⟨g1, 0, none⟩ : Addr).add (0 + 0))) = v, fun c ρ w v => .agg (cForm.enc a0.1).toArray = v, fun c ρ w v => .pointer (some ((⟨g1, 0, none⟩ : Addr).add (0 + 9))) = v, fun c ρ w v => .agg (cForm.enc a0.2.1).toArray = v, fun c ρ w v => .pointer (some ((⟨g1, 0, none⟩ : Addr).add (0 + 18))) = v, fun c ρ w v => .agg (cForm.enc a0.2.2).toArray = v, fun c ρ w v => .agg (cForms.enc (#v[a0.1, a0.2.1, a0.2.2] : Forms)).toArray = v, fun c ρ w v => .pointer (some ((⟨g2, 0, none⟩ : Addr).add (0 + 0))) = v, fun c ρ w v => .agg (cForm.enc a1.1).toArray = v, fun c ρ w v => .pointer (some ((⟨g2, 0, none⟩ : Addr).add (0 + 9))) = v, fun c ρ w v => .agg (cForm.enc a1.2.1).toArray = v, fun c ρ w v => .pointer (some ((⟨g2, 0, none⟩ : Addr).add (0 + 18))) = v, fun c ρ w v => .agg (cForm.enc a1.2.2).toArray = v, fun c ρ w v => .agg (cForms.enc (#v[a1.1, a1.2.1, a1.2.2] : Forms)).toArray = v, fun c ρ w v => ∃ g3, .pointer (some ((⟨g3, 0, none⟩ : Addr).add 0)) = v ∧ (c ≤ 0 → Va ρ w 3 g3 154 (cForms.enc zForms)) ∧ (0 < c → Va ρ w 3 g3 154 (cForms.enc (#v[a0.1, a0.2.1, a0.2.2] : Forms))), fun c ρ w v => ∃ g4, .pointer (some ((⟨g4, 0, none⟩ : Addr).add 0)) = v ∧ Va ρ w 4 g4 154 (cForms.enc zForms), fun _ _ _ _ => True]) hfL hS (by kernel_rfl) rfl (wn rfl) (r_store_w (cs' := cForms.enc (#v[a0.1, a0.2.1, a0.2.2] : Forms)) hw o3 (by decide) ty154 (cForms.len _) (cForms.len _) (cForms.one _) hf rfl rfl rfl) (fun w' hΦ => ?_) hK
      obtain ⟨hw, hA, o3⟩ := hΦ
      replace o1 := o1.adv hA (by decide)
      replace o2 := o2.adv hA (by decide)
      refine ⟨_, hw, ⟨o1, o2⟩, ?_⟩
      · exact PassL.cons (fun h => h) <| PassL.cons (fun h => h) <| PassL.cons (fun h => h) <| PassL.cons (fun h => h) <| PassL.cons (fun h => h) <| PassL.cons (fun h => h) <| PassL.cons (fun h => h) <| PassL.cons (fun h => h) <| PassL.cons (fun h => h) <| PassL.cons (fun h => h) <| PassL.cons (fun h => h) <| PassL.cons (fun h => h) <| PassL.cons (fun h => h) <| PassL.cons (fun h => h) <| PassL.cons (fun _ => ⟨_, ht14, _, rfl, fun h => absurd h (by decide), fun _ => o3⟩) <| PassL.cons (fun h => by obtain ⟨_, ht, g4, h, o4⟩ := h; exact ⟨_, ht, _, h, o4.adv hA (by decide)⟩) <| PassL.here <| PassL.nil
  intro ρ w a hw hG hf hd
  obtain ⟨o1, o2⟩ := hG
  obtain ⟨_, hf, rfl⟩ := got (hd 13 (by decide) (by kernel_rfl)) hf
  obtain ⟨_, ht, g3, rfl, hx, hy⟩ := hd 14 (by decide) (by kernel_rfl)
  obtain o3 := hy (by decide)
  replace hf := hf.more ht
  obtain ⟨_, hf, ⟨g4, rfl, o4⟩⟩ := got (hd 15 (by decide) (by kernel_rfl)) hf
  refine sk_ hf (r_store_w (cs' := cForms.enc (#v[a1.1, a1.2.1, a1.2.2] : Forms)) hw o4 (by decide) ty154 (cForms.len _) (cForms.len _) (cForms.one _) hf rfl rfl rfl) fun a w hf hΦ => ?_
  obtain ⟨hw, hA, o4⟩ := hΦ
  replace o1 := o1.adv hA (by decide)
  replace o2 := o2.adv hA (by decide)
  replace o3 := o3.adv hA (by decide)
  refine c_nt <| c_seq <| c_seq <| c_region ?_
  refine s_ hf (r_assign hf rfl) fun a hf => ?_
  refine c_nt ?_
  obtain ⟨ol1, ho1, hG1⟩ := of_bind hF
  clear hF
  refine c_block (c_loop (id := 0) (fun s => spec_l01Less_l1 a0 a1 s) (fun (s2 : Int) a w => ∃ ρ, Wd w0 ρ w ∧ Fr 53 a [(5, .pointer (some ((⟨g3, 0, none⟩ : Addr).add 0))), (6, .pointer (some ((⟨g4, 0, none⟩ : Addr).add 0))), (7, vI s2)] ∧ Va ρ w 3 g3 154 (cForms.enc (#v[a0.1, a0.2.1, a0.2.2] : Forms)) ∧ Va ρ w 4 g4 154 (cForms.enc (#v[a1.1, a1.2.1, a1.2.2] : Forms))) (fun (s2 : Int) a w => ∃ ρ, Wd w0 ρ w ∧ Fr 53 a []) ho1 ⟨_, hw, hf.sub ⟨rfl, rfl, rfl, trivial⟩, o3, o4⟩ ?_ ?_)
  · rintro s2 lr a w ⟨ρ, hw, hf, o3, o4⟩ hF
    replace hF : spec_l01Less_l1 a0 a1 s2 = some lr := hF
    unfold spec_l01Less_l1 at hF
    refine c_seq <| c_seq <| c_region ?_
    refine s_ hf (r_move hf rfl) fun a hf => ?_
    refine s_ hf (r_lss hf rfl rfl) fun a hf => ?_
    refine c_nt ?_
    rcases of_ite hF with ⟨hb3, hF⟩ | ⟨hb3, hF⟩
    rotate_left
    · refine c_iff hf rfl hb3 <| c_exit <| x_then ?_
      obtain rfl := Option.some.inj hF
      exact Rnd.stops ⟨_, hw, hf.sub trivial⟩
    refine c_ift hf rfl hb3 <| c_skip <| n_then <| c_seq <| c_block <| c_seq <| c_region ?_
    refine s_ hf (r_assign hf rfl) fun a hf => ?_
    refine c_nt ?_
    obtain ⟨ol4, ho4, hG4⟩ := of_bind hF
    clear hF
    refine c_block (c_loop (id := 2) (fun s => spec_l01Less_l4 a0 a1 s2 s) (fun (s5 : Int) a w => ∃ ρ, Wd w0 ρ w ∧ Fr 53 a [(5, .pointer (some ((⟨g3, 0, none⟩ : Addr).add 0))), (6, .pointer (some ((⟨g4, 0, none⟩ : Addr).add 0))), (7, vI s2), (8, vI s5)] ∧ Va ρ w 3 g3 154 (cForms.enc (#v[a0.1, a0.2.1, a0.2.2] : Forms)) ∧ Va ρ w 4 g4 154 (cForms.enc (#v[a1.1, a1.2.1, a1.2.2] : Forms))) (fun (s5 : Int) a w => ∃ ρ, Wd w0 ρ w ∧ Fr 53 a [(5, .pointer (some ((⟨g3, 0, none⟩ : Addr).add 0))), (6, .pointer (some ((⟨g4, 0, none⟩ : Addr).add 0))), (7, vI s2)] ∧ Va ρ w 3 g3 154 (cForms.enc (#v[a0.1, a0.2.1, a0.2.2] : Forms)) ∧ Va ρ w 4 g4 154 (cForms.enc (#v[a1.1, a1.2.1, a1.2.2] : Forms))) ho4 ⟨_, hw, hf.sub ⟨rfl, rfl, rfl, rfl, trivial⟩, o3, o4⟩ ?_ ?_)
    · rintro s5 lr a w ⟨ρ, hw, hf, o3, o4⟩ hF
      replace hF : spec_l01Less_l4 a0 a1 s2 s5 = some lr := hF
      unfold spec_l01Less_l4 at hF
      refine c_seq <| c_seq <| c_region ?_
      refine s_ hf (r_move hf rfl) fun a hf => ?_
      refine s_ hf (r_lss hf rfl rfl) fun a hf => ?_
      refine c_nt ?_
      rcases of_ite hF with ⟨hb6, hF⟩ | ⟨hb6, hF⟩
      rotate_left
      · refine c_iff hf rfl hb6 <| c_exit <| x_then ?_
        obtain rfl := Option.some.inj hF
        exact Rnd.stops ⟨_, hw, hf.sub ⟨rfl, rfl, rfl, trivial⟩, o3, o4⟩
      refine c_ift hf rfl hb6 <| c_skip <| n_then <| c_seq <| c_block <| c_seq ?_
      obtain ⟨hc7, hF⟩ := of_guard hF
      obtain ⟨hc8, hF⟩ := of_guard hF
      replace hf : Fr 53 a [(5, .pointer (some ((⟨g3, 0, none⟩ : Addr).add 0))), (6, .pointer (some ((⟨g4, 0, none⟩ : Addr).add 0))), (7, vI s2), (8, vI s5)] := hf.sub ⟨rfl, rfl, rfl, rfl, trivial⟩
      refine c_drawL (h := 10) mixed (by kernel_rfl) (by kernel_rfl) (fun ρ w => Va ρ w 3 g3 154 (cForms.enc (#v[a0.1, a0.2.1, a0.2.2] : Forms)) ∧ Va ρ w 4 g4 154 (cForms.enc (#v[a1.1, a1.2.1, a1.2.2] : Forms))) ?_ [fun ρ w v => vI s2 = v, fun ρ w v => vI s5 = v, fun ρ w v => .pointer (some ((⟨g3, 0, none⟩ : Addr).add (0 + s2.toNat * 9))) = v, fun ρ w v => .pointer (some ((⟨g3, 0, none⟩ : Addr).add ((0 + s2.toNat * 9) + s5.toNat * 1))) = v, fun ρ w v => vB (vg 0 (vg zForm (#v[a0.1, a0.2.1, a0.2.2] : Forms) s2) s5) = v, fun ρ w v => vI s2 = v, fun ρ w v => vI s5 = v, fun ρ w v => .pointer (some ((⟨g4, 0, none⟩ : Addr).add (0 + s2.toNat * 9))) = v, fun ρ w v => .pointer (some ((⟨g4, 0, none⟩ : Addr).add ((0 + s2.toNat * 9) + s5.toNat * 1))) = v, fun ρ w v => vB (vg 0 (vg zForm (#v[a1.1, a1.2.1, a1.2.2] : Forms) s2) s5) = v] ?_ hw ⟨o3, o4⟩ hf ?_ ?_
      · intro ρ w ρ' w' hE hG
        obtain ⟨o3, o4⟩ := hG
        exact ⟨o3.ext hE, o4.ext hE⟩
      · exact LastsL.cons (fun _ _ _ _ _ _ h => h) <| LastsL.cons (fun _ _ _ _ _ _ h => h) <| LastsL.cons (fun _ _ _ _ _ _ h => h) <| LastsL.cons (fun _ _ _ _ _ _ h => h) <| LastsL.cons (fun _ _ _ _ _ _ h => h) <| LastsL.cons (fun _ _ _ _ _ _ h => h) <| LastsL.cons (fun _ _ _ _ _ _ h => h) <| LastsL.cons (fun _ _ _ _ _ _ h => h) <| LastsL.cons (fun _ _ _ _ _ _ h => h) <| LastsL.cons (fun _ _ _ _ _ _ h => h) <| LastsL.nil
      · refine StepsB.cons ?_ <| StepsB.cons ?_ <| StepsB.cons ?_ <| StepsB.cons ?_ <| StepsB.cons ?_ <| StepsB.cons ?_ <| StepsB.cons ?_ <| StepsB.cons ?_ <| StepsB.cons ?_ <| StepsB.cons ?_ <| StepsB.nil
        · intro ρ w a hw hG hf hd K hK
          obtain ⟨o3, o4⟩ := hG
          exact dv_ hK hw (wn rfl) (r_move hf rfl) rfl
        · intro ρ w a hw hG hf hd K hK
          obtain ⟨o3, o4⟩ := hG
          exact dv_ hK hw (wn rfl) (r_move hf rfl) rfl
        · intro ρ w a hw hG hf hd K hK
          obtain ⟨o3, o4⟩ := hG
          obtain ⟨_, hf, rfl⟩ := got (hd 0 (by kernel_rfl)) hf
          exact dv_ hK hw (wn rfl) (r_indexAddr_arr Try.underlying154 sz80 hf rfl rfl hc7.1 hc7.2) rfl
        · intro ρ w a hw hG hf hd K hK
          obtain ⟨o3, o4⟩ := hG
          obtain ⟨_, hf, rfl⟩ := got (hd 1 (by kernel_rfl)) hf
          obtain ⟨_, hf, rfl⟩ := got (hd 2 (by kernel_rfl)) hf
          exact dv_ hK hw (wn rfl) (r_indexAddr_arr Try.underlying80 sz5 hf rfl rfl hc8.1 hc8.2) rfl
        · intro ρ w a hw hG hf hd K hK
          obtain ⟨o3, o4⟩ := hG
          obtain ⟨_, hf, rfl⟩ := got (hd 3 (by kernel_rfl)) hf
          exact dv_ hK hw (wn rfl) (r_load_cell ty5 hf rfl ((o3.cl.lens (Lens.vec zForm cForm s2 hc7.1 hc7.2)).lens (Lens.vec 0 fU8 s5 hc8.1 hc8.2))) rfl
        · intro ρ w a hw hG hf hd K hK
          obtain ⟨o3, o4⟩ := hG
          exact dv_ hK hw (wn rfl) (r_move hf rfl) rfl
        · intro ρ w a hw hG hf hd K hK
          obtain ⟨o3, o4⟩ := hG
          exact dv_ hK hw (wn rfl) (r_move hf rfl) rfl
        · intro ρ w a hw hG hf hd K hK
          obtain ⟨o3, o4⟩ := hG
          obtain ⟨_, hf, rfl⟩ := got (hd 5 (by kernel_rfl)) hf
          exact dv_ hK hw (wn rfl) (r_indexAddr_arr Try.underlying154 sz80 hf rfl rfl hc7.1 hc7.2) rfl
        · intro ρ w a hw hG hf hd K hK
          obtain ⟨o3, o4⟩ := hG
          obtain ⟨_, hf, rfl⟩ := got (hd 6 (by kernel_rfl)) hf
          obtain ⟨_, hf, rfl⟩ := got (hd 7 (by kernel_rfl)) hf
          exact dv_ hK hw (wn rfl) (r_indexAddr_arr Try.underlying80 sz5 hf rfl rfl hc8.1 hc8.2) rfl
        · intro ρ w a hw hG hf hd K hK
          obtain ⟨o3, o4⟩ := hG
          obtain ⟨_, hf, rfl⟩ := got (hd 8 (by kernel_rfl)) hf
          exact dv_ hK hw (wn rfl) (r_load_cell ty5 hf rfl ((o4.cl.lens (Lens.vec zForm cForm s2 hc7.1 hc7.2)).lens (Lens.vec 0 fU8 s5 hc8.1 hc8.2))) rfl
      intro ρ w a hw hG hf hd
      obtain ⟨o3, o4⟩ := hG
      obtain ⟨_, hf, rfl⟩ := got (hd 4 (by decide)) hf
      obtain ⟨_, hf, rfl⟩ := got (hd 9 (by decide)) hf
      refine s_ hf (r_neq hf rfl rfl) fun a hf => ?_
      refine c_nt ?_
      rcases of_ite hF with ⟨hb9, hF⟩ | ⟨hb9, hF⟩
      rotate_left
      · refine c_iff hf rfl hb9 <| c_skip <| n_block <| n_then <| c_region ?_
        refine s_ hf (r_move hf rfl) fun a hf => ?_
        refine s_ hf (r_add hf rfl rfl) fun a hf => ?_
        refine s_ hf (r_assign hf rfl) fun a hf => ?_
        refine c_nil ?_
        obtain rfl := Option.some.inj hF
        exact Rnd.goes ⟨_, hw, hf.sub ⟨rfl, rfl, rfl, rfl, trivial⟩, o3, o4⟩
      refine c_ift hf rfl hb9 <| c_seq ?_
      replace hf : Fr 53 a [(5, .pointer (some ((⟨g3, 0, none⟩ : Addr).add 0))), (6, .pointer (some ((⟨g4, 0, none⟩ : Addr).add 0))), (7, vI s2), (8, vI s5)] := hf.sub ⟨rfl, rfl, rfl, rfl, trivial⟩
      refine c_drawL (h := 10) mixed (by kernel_rfl) (by kernel_rfl) (fun ρ w => Va ρ w 3 g3 154 (cForms.enc (#v[a0.1, a0.2.1, a0.2.2] : Forms)) ∧ Va ρ w 4 g4 154 (cForms.enc (#v[a1.1, a1.2.1, a1.2.2] : Forms))) ?_ [fun ρ w v => vI s2 = v, fun ρ w v => vI s5 = v, fun ρ w v => .pointer (some ((⟨g3, 0, none⟩ : Addr).add (0 + s2.toNat * 9))) = v, fun ρ w v => .pointer (some ((⟨g3, 0, none⟩ : Addr).add ((0 + s2.toNat * 9) + s5.toNat * 1))) = v, fun ρ w v => vB (vg 0 (vg zForm (#v[a0.1, a0.2.1, a0.2.2] : Forms) s2) s5) = v, fun ρ w v => vI s2 = v, fun ρ w v => vI s5 = v, fun ρ w v => .pointer (some ((⟨g4, 0, none⟩ : Addr).add (0 + s2.toNat * 9))) = v, fun ρ w v => .pointer (some ((⟨g4, 0, none⟩ : Addr).add ((0 + s2.toNat * 9) + s5.toNat * 1))) = v, fun ρ w v => vB (vg 0 (vg zForm (#v[a1.1, a1.2.1, a1.2.2] : Forms) s2) s5) = v] ?_ hw ⟨o3, o4⟩ hf ?_ ?_
      · intro ρ w ρ' w' hE hG
        obtain ⟨o3, o4⟩ := hG
        exact ⟨o3.ext hE, o4.ext hE⟩
      · exact LastsL.cons (fun _ _ _ _ _ _ h => h) <| LastsL.cons (fun _ _ _ _ _ _ h => h) <| LastsL.cons (fun _ _ _ _ _ _ h => h) <| LastsL.cons (fun _ _ _ _ _ _ h => h) <| LastsL.cons (fun _ _ _ _ _ _ h => h) <| LastsL.cons (fun _ _ _ _ _ _ h => h) <| LastsL.cons (fun _ _ _ _ _ _ h => h) <| LastsL.cons (fun _ _ _ _ _ _ h => h) <| LastsL.cons (fun _ _ _ _ _ _ h => h) <| LastsL.cons (fun _ _ _ _ _ _ h => h) <| LastsL.nil
      · refine StepsB.cons ?_ <| StepsB.cons ?_ <| StepsB.cons ?_ <| StepsB.cons ?_ <| StepsB.cons ?_ <| StepsB.cons ?_ <| StepsB.cons ?_ <| StepsB.cons ?_ <| StepsB.cons ?_ <| StepsB.cons ?_ <| StepsB.nil
        · intro ρ w a hw hG hf hd K hK
          obtain ⟨o3, o4⟩ := hG
          exact dv_ hK hw (wn rfl) (r_move hf rfl) rfl
        · intro ρ w a hw hG hf hd K hK
          obtain ⟨o3, o4⟩ := hG
          exact dv_ hK hw (wn rfl) (r_move hf rfl) rfl
        · intro ρ w a hw hG hf hd K hK
          obtain ⟨o3, o4⟩ := hG
          obtain ⟨_, hf, rfl⟩ := got (hd 0 (by kernel_rfl)) hf
          exact dv_ hK hw (wn rfl) (r_indexAddr_arr Try.underlying154 sz80 hf rfl rfl hc7.1 hc7.2) rfl
        · intro ρ w a hw hG hf hd K hK
          obtain ⟨o3, o4⟩ := hG
          obtain ⟨_, hf, rfl⟩ := got (hd 1 (by kernel_rfl)) hf
          obtain ⟨_, hf, rfl⟩ := got (hd 2 (by kernel_rfl)) hf
          exact dv_ hK hw (wn rfl) (r_indexAddr_arr Try.underlying80 sz5 hf rfl rfl hc8.1 hc8.2) rfl
        · intro ρ w a hw hG hf hd K hK
          obtain ⟨o3, o4⟩ := hG
          obtain ⟨_, hf, rfl⟩ := got (hd 3 (by kernel_rfl)) hf
          exact dv_ hK hw (wn rfl) (r_load_cell ty5 hf rfl ((o3.cl.lens (Lens.vec zForm cForm s2 hc7.1 hc7.2)).lens (Lens.vec 0 fU8 s5 hc8.1 hc8.2))) rfl
        · intro ρ w a hw hG hf hd K hK
          obtain ⟨o3, o4⟩ := hG
          exact dv_ hK hw (wn rfl) (r_move hf rfl) rfl
        · intro ρ w a hw hG hf hd K hK
          obtain ⟨o3, o4⟩ := hG
          exact dv_ hK hw (wn rfl) (r_move hf rfl) rfl
        · intro ρ w a hw hG hf hd K hK
          obtain ⟨o3, o4⟩ := hG
          obtain ⟨_, hf, rfl⟩ := got (hd 5 (by kernel_rfl)) hf
          exact dv_ hK hw (wn rfl) (r_indexAddr_arr Try.underlying154 sz80 hf rfl rfl hc7.1 hc7.2) rfl
        · intro ρ w a hw hG hf hd K hK
          obtain ⟨o3, o4⟩ := hG
          obtain ⟨_, hf, rfl⟩ := got (hd 6 (by kernel_rfl)) hf
          obtain ⟨_, hf, rfl⟩ := got (hd 7 (by kernel_rfl)) hf
          exact dv_ hK hw (wn rfl) (r_indexAddr_arr Try.underlying80 sz5 hf rfl rfl hc8.1 hc8.2) rfl
        · intro ρ w a hw hG hf hd K hK
          obtain ⟨o3, o4⟩ := hG
          obtain ⟨_, hf, rfl⟩ := got (hd 8 (by kernel_rfl)) hf
          exact dv_ hK hw (wn rfl) (r_load_cell ty5 hf rfl ((o4.cl.lens (Lens.vec zForm cForm s2 hc7.1 hc7.2)).lens (Lens.vec 0 fU8 s5 hc8.1 hc8.2))) rfl
      intro ρ w a hw hG hf hd
      obtain ⟨o3, o4⟩ := hG
      obtain ⟨_, hf, rfl⟩ := got (hd 4 (by decide)) hf
      obtain ⟨_, hf, rfl⟩ := got (hd 9 (by decide)) hf
      refine s_ hf (r_lss hf rfl rfl) fun a hf => ?_
      refine s_ hf (r_assign hf rfl) fun a hf => ?_
      refine c_nt <| c_retc ?_
      obtain rfl := Option.some.inj hF
      refine r_block <| r_then ?_
      refine Rnd.rets fun ho => ?_
      subst ho
      have hF := hG4
      dsimp only at hF
      obtain rfl := Option.some.inj hF
      refine r_block <| r_block <| r_then ?_
      refine Rnd.rets fun ho => ?_
      subst ho
      have hF := hG1
      dsimp only at hF
      obtain rfl := Option.some.inj hF
      refine r_block <| r_then <| c_ret hf (res_tmp Try.results145 hf rfl) ?_
      exact ⟨_, rfl, hw.below, rfl⟩
    rintro s5 a w hs ⟨ρ, hw, hf, o3, o4⟩
    subst hs
    have hF := hG4
    dsimp only at hF
    refine x_block <| n_block <| n_then <| c_region ?_
    refine s_ hf (r_move hf rfl) fun a hf => ?_
    refine s_ hf (r_add hf rfl rfl) fun a hf => ?_
    refine s_ hf (r_assign hf rfl) fun a hf => ?_
    refine c_nil ?_
    obtain rfl := Option.some.inj hF
    exact Rnd.goes ⟨_, hw, hf.sub ⟨rfl, rfl, rfl, trivial⟩, o3, o4⟩
  rintro s2 a w hs ⟨ρ, hw, hf⟩
  subst hs
  have hF := hG1
  dsimp only at hF
  refine x_block <| n_then <| c_seq <| c_region ?_
  refine s_ hf (r_assign hf rfl) fun a hf => ?_
  refine c_nt <| c_retc ?_
  obtain rfl := Option.some.inj hF
  refine c_ret hf (res_tmp Try.results145 hf rfl) ?_
  exact ⟨_, rfl, hw.below, rfl⟩
/-! f194 -/
noncomputable def cmp_Or_194_l1 (a0 : List Int) (s2 : Int) : Option (LR Int Int) :=
  if (decide (s2 < (a0.length : Int))) = true then (if 0 ≤ s2 ∧ s2 < (a0.length : Int) then (if (decide ((gl 0 a0 s2) ≠ 0)) = true then (some (.ret (gl 0 a0 s2))) else (some (.next (w64 (s2 + 1))))) else none) else (some (.stop s2))
noncomputable def cmp_Or_194 (a0 : List Int) : Option Int :=
  (iter (fun s => cmp_Or_194_l1 a0 s) 0).bind fun o => match o with | .stop s2 => (some (0)) | .ret r => some r | .next _ => none
theorem cmp_Or_194_ok {w0 : World} {a0 : List Int} {va0 : Value} (h0 : Ro (kf fI64) w0 va0 a0) {r : Int} (hF : cmp_Or_194 a0 = some r) :
    Calls Try.prog 194 [va0].toArray w0 fun e w => ∃ v, e = .returned v ∧ Below w0.heap.size w0 w ∧ .int .i64 r = v := by
  refine calls_of (k := 18) Try.func194 rfl rfl (Nat.le_of_ble_eq_true rfl) fun a hf => ?_
  replace hf : Fr 18 a [(0, va0)] := hf
  refine c_start fun w ρ hw => ?_
  unfold cmp_Or_194 at hF
  refine c_seq <| c_region ?_
  refine s_ hf (r_assign hf rfl) fun a hf => ?_
  refine c_nt <| c_seq <| c_region ?_
  refine s_ hf (r_assign hf rfl) fun a hf => ?_
  refine c_nt <| c_seq <| c_seq <| c_region ?_
  refine s_ hf (r_move hf rfl) fun a hf => ?_
  refine s_ hf (r_len Try.underlying195 (h0.now hw) hf rfl) fun a hf => ?_
  refine s_ hf (r_move hf rfl) fun a hf => ?_
  refine c_nt ?_
  obtain ⟨ol1, ho1, hG1⟩ := of_bind hF
  clear hF
  refine c_block (c_loop (id := 0) (fun s => cmp_Or_194_l1 a0 s) (fun (s2 : Int) a w => ∃ ρ, Wd w0 ρ w ∧ Fr 18 a [(3, vI 0), (6, va0), (7, vI (a0.length : Int)), (8, vI s2)]) (fun (s2 : Int) a w => ∃ ρ, Wd w0 ρ w ∧ Fr 18 a [(3, vI 0)]) ho1 ⟨_, hw, hf.sub ⟨rfl, rfl, rfl, rfl, trivial⟩⟩ ?_ ?_)
  · rintro s2 lr a w ⟨ρ, hw, hf⟩ hF
    replace hF : cmp_Or_194_l1 a0 s2 = some lr := hF
    unfold cmp_Or_194_l1 at hF
    refine c_seq <| c_region ?_
    refine s_ hf (r_lss hf rfl rfl) fun a hf => ?_
    refine c_nt <| c_seq ?_
    rcases of_ite hF with ⟨hb3, hF⟩ | ⟨hb3, hF⟩
    rotate_left
    · refine c_iff hf rfl hb3 <| c_exit <| x_then ?_
      obtain rfl := Option.some.inj hF
      exact Rnd.stops ⟨_, hw, hf.sub ⟨rfl, trivial⟩⟩
    refine c_ift hf rfl hb3 <| c_skip <| n_then <| c_seq <| c_block <| c_seq <| c_region ?_
    obtain ⟨hc4, hF⟩ := of_guard hF
    obtain ⟨ad5, c5, he5, hl5⟩ := Ro.el fI64 h0 0 hc4.1 hc4.2
    refine s_ hf (r_idx Try.underlying195 sz3 hf rfl ⟨_, he5⟩ rfl hc4.1 hc4.2) fun a hf => ?_
    refine s_ hf (r_load_cell ty3 hf rfl (hl5.below hw.below)) fun a hf => ?_
    refine s_ hf (r_assign hf rfl) fun a hf => ?_
    refine c_nt <| c_seq <| c_region ?_
    refine s_ hf (r_move hf rfl) fun a hf => ?_
    refine s_ hf (r_move hf rfl) fun a hf => ?_
    refine s_ hf (r_neq hf rfl rfl) fun a hf => ?_
    refine c_nt ?_
    rcases of_ite hF with ⟨hb6, hF⟩ | ⟨hb6, hF⟩
    rotate_left
    · refine c_iff hf rfl hb6 <| c_skip <| n_block <| n_then <| c_region ?_
      refine s_ hf (r_add hf rfl rfl) fun a hf => ?_
      refine s_ hf (r_move hf rfl) fun a hf => ?_
      refine c_nil ?_
      obtain rfl := Option.some.inj hF
      exact Rnd.goes ⟨_, hw, hf.sub ⟨rfl, rfl, rfl, rfl, trivial⟩⟩
    refine c_ift hf rfl hb6 <| c_seq <| c_region ?_
    refine s_ hf (r_move hf rfl) fun a hf => ?_
    refine s_ hf (r_assign hf rfl) fun a hf => ?_
    refine c_nt <| c_retc ?_
    obtain rfl := Option.some.inj hF
    refine r_block <| r_then ?_
    refine Rnd.rets fun ho => ?_
    subst ho
    have hF := hG1
    dsimp only at hF
    obtain rfl := Option.some.inj hF
    refine r_block <| r_then <| c_ret hf (res_tmp Try.results194 hf rfl) ?_
    exact ⟨_, rfl, hw.below, rfl⟩
  rintro s2 a w hs ⟨ρ, hw, hf⟩
  subst hs
  have hF := hG1
  dsimp only at hF
  refine x_block <| n_then <| c_seq <| c_region ?_
  refine s_ hf (r_move hf rfl) fun a hf => ?_
  refine s_ hf (r_assign hf rfl) fun a hf => ?_
  refine c_nt <| c_retc ?_
  obtain rfl := Option.some.inj hF
  refine c_ret hf (res_tmp Try.results194 hf rfl) ?_
  exact ⟨_, rfl, hw.below, rfl⟩
/-! f210 -/
noncomputable def cmp_isNaN_210 (a0 : UInt8) : Option Bool :=
  some (decide ((a0.toNat : Int) ≠ (a0.toNat : Int)))
theorem cmp_isNaN_210_ok {w0 : World} {a0 : UInt8}   {r : Bool} (hF : cmp_isNaN_210 a0 = some r) :
    Calls Try.prog 210 [vB a0].toArray w0 fun e w => ∃ v, e = .returned v ∧ Below w0.heap.size w0 w ∧ .bool r = v := by
  refine calls_of (k := 6) Try.func210 rfl rfl (Nat.le_of_ble_eq_true rfl) fun a hf => ?_
  replace hf : Fr 6 a [(0, vB a0)] := hf
  refine c_start fun w ρ hw => ?_
  unfold cmp_isNaN_210 at hF
  refine c_seq <| c_region ?_
  refine s_ hf (r_assign hf rfl) fun a hf => ?_
  refine c_nt <| c_seq <| c_region ?_
  refine s_ hf (r_move hf rfl) fun a hf => ?_
  refine s_ hf (r_move hf rfl) fun a hf => ?_
  refine s_ hf (r_neq hf rfl rfl) fun a hf => ?_
  refine s_ hf (r_assign hf rfl) fun a hf => ?_
  refine c_nt <| c_retc ?_
  obtain rfl := Option.some.inj hF
  refine c_ret hf (res_tmp Try.results210 hf rfl) ?_
  exact ⟨_, rfl, hw.below, rfl⟩
/-! f206 -/
noncomputable def cmp_Compare_206 (a0 : UInt8) (a1 : UInt8) : Option Int :=
  (cmp_isNaN_210 a0).bind fun x1 => (cmp_isNaN_210 a1).bind fun x3 => if x1 = true then (if x3 = true then (some (0)) else (some ((-1)))) else (if x3 = true then (some (1)) else (if (decide ((a0.toNat : Int) < (a1.toNat : Int))) = true then (some ((-1))) else (if (decide ((a1.toNat : Int) < (a0.toNat : Int))) = true then (some (1)) else (some (0)))))
theorem cmp_Compare_206_ok {w0 : World} {a0 : UInt8} {a1 : UInt8}   {r : Int} (hF : cmp_Compare_206 a0 a1 = some r) :
    Calls Try.prog 206 [vB a0, vB a1].toArray w0 fun e w => ∃ v, e = .returned v ∧ Below w0.heap.size w0 w ∧ .int .i64 r = v := by
  refine calls_of (k := 20) Try.func206 rfl rfl (Nat.le_of_ble_eq_true rfl) fun a hf => ?_
  replace hf : Fr 20 a [(0, vB a0), (1, vB a1)] := hf
  refine c_start fun w ρ hw => ?_
  unfold cmp_Compare_206 at hF
  refine c_seq <| c_region ?_
  refine s_ hf (r_assign hf rfl) fun a hf => ?_
  refine c_nt <| c_seq <| c_region ?_
  refine s_ hf (r_move hf rfl) fun a hf => ?_
  obtain ⟨x1, hx2, hF⟩ := of_bind hF
  refine st_fn 1 hw hf rfl rfl (by decide) (r_fn en210 hf rfl) (cmp_isNaN_210_ok  hx2) fun a v w ρ hf hw hE hN hΦ => ?_
  obtain rfl := hΦ
  refine s_ hf (r_assign hf rfl) fun a hf => ?_
  refine c_nt <| c_seq <| c_region ?_
  refine s_ hf (r_move hf rfl) fun a hf => ?_
  obtain ⟨x3, hx4, hF⟩ := of_bind hF
  refine st_fn 2 hw hf rfl rfl (by decide) (r_fn en210 hf rfl) (cmp_isNaN_210_ok  hx4) fun a v w ρ hf hw hE hN hΦ => ?_
  obtain rfl := hΦ
  refine s_ hf (r_assign hf rfl) fun a hf => ?_
  refine c_nt <| c_seq <| c_seq <| c_region ?_
  refine s_ hf (r_move hf rfl) fun a hf => ?_
  refine c_nt ?_
  rcases of_ite hF with ⟨hb5, hF⟩ | ⟨hb5, hF⟩
  · refine c_ift hf rfl hb5 <| c_seq <| c_seq <| c_region ?_
    refine s_ hf (r_move hf rfl) fun a hf => ?_
    refine c_nt ?_
    rcases of_ite hF with ⟨hb6, hF⟩ | ⟨hb6, hF⟩
    · refine c_ift hf rfl hb6 <| c_seq <| c_region ?_
      refine s_ hf (r_assign hf rfl) fun a hf => ?_
      refine c_nt <| c_retc ?_
      obtain rfl := Option.some.inj hF
      refine r_then <| r_then <| c_ret hf (res_tmp Try.results206 hf rfl) ?_
      exact ⟨_, rfl, hw.below, rfl⟩
    refine c_iff hf rfl hb6 <| c_skip <| n_then <| c_seq <| c_region ?_
    refine s_ hf (r_assign hf rfl) fun a hf => ?_
    refine c_nt <| c_retc ?_
    obtain rfl := Option.some.inj hF
    refine r_then <| c_ret hf (res_tmp Try.results206 hf rfl) ?_
    exact ⟨_, rfl, hw.below, rfl⟩
  refine c_iff hf rfl hb5 <| c_skip <| n_then <| c_seq <| c_seq <| c_region ?_
  refine s_ hf (r_move hf rfl) fun a hf => ?_
  refine c_nt ?_
  rcases of_ite hF with ⟨hb7, hF⟩ | ⟨hb7, hF⟩
  · refine c_ift hf rfl hb7 <| c_seq <| c_region ?_
    refine s_ hf (r_assign hf rfl) fun a hf => ?_
    refine c_nt <| c_retc ?_
    obtain rfl := Option.some.inj hF
    refine r_then <| c_ret hf (res_tmp Try.results206 hf rfl) ?_
    exact ⟨_, rfl, hw.below, rfl⟩
  refine c_iff hf rfl hb7 <| c_skip <| n_then <| c_seq <| c_seq <| c_region ?_
  refine s_ hf (r_move hf rfl) fun a hf => ?_
  refine s_ hf (r_move hf rfl) fun a hf => ?_
  refine s_ hf (r_lss hf rfl rfl) fun a hf => ?_
  refine c_nt ?_
  rcases of_ite hF with ⟨hb8, hF⟩ | ⟨hb8, hF⟩
  · refine c_ift hf rfl hb8 <| c_seq <| c_region ?_
    refine s_ hf (r_assign hf rfl) fun a hf => ?_
    refine c_nt <| c_retc ?_
    obtain rfl := Option.some.inj hF
    refine r_then <| c_ret hf (res_tmp Try.results206 hf rfl) ?_
    exact ⟨_, rfl, hw.below, rfl⟩
  refine c_iff hf rfl hb8 <| c_skip <| n_then <| c_seq <| c_seq <| c_region ?_
  refine s_ hf (r_move hf rfl) fun a hf => ?_
  refine s_ hf (r_move hf rfl) fun a hf => ?_
  refine s_ hf (r_gtr hf rfl rfl) fun a hf => ?_
  refine c_nt ?_
  rcases of_ite hF with ⟨hb9, hF⟩ | ⟨hb9, hF⟩
  · refine c_ift hf rfl hb9 <| c_seq <| c_region ?_
    refine s_ hf (r_assign hf rfl) fun a hf => ?_
    refine c_nt <| c_retc ?_
    obtain rfl := Option.some.inj hF
    refine r_then <| c_ret hf (res_tmp Try.results206 hf rfl) ?_
    exact ⟨_, rfl, hw.below, rfl⟩
  refine c_iff hf rfl hb9 <| c_skip <| n_then <| c_seq <| c_region ?_
  refine s_ hf (r_assign hf rfl) fun a hf => ?_
  refine c_nt <| c_retc ?_
  obtain rfl := Option.some.inj hF
  refine c_ret hf (res_tmp Try.results206 hf rfl) ?_
  exact ⟨_, rfl, hw.below, rfl⟩
/-! f195 -/
noncomputable def slices_Compare_195_l1 (a0 : List UInt8) (a1 : List UInt8) (s2 : Int) : Option (LR Int Int) :=
  if (decide (s2 < (a0.length : Int))) = true then (if 0 ≤ s2 ∧ s2 < (a0.length : Int) then (if (decide ((a1.length : Int) ≤ s2)) = true then (some (.ret 1)) else (if 0 ≤ s2 ∧ s2 < (a1.length : Int) then ((cmp_Compare_206 (gl 0 a0 s2) (gl 0 a1 s2)).bind fun x9 => if (decide (x9 ≠ 0)) = true then (some (.ret x9)) else (some (.next (w64 (s2 + 1))))) else none)) else none) else (some (.stop s2))
noncomputable def slices_Compare_195 (a0 : List UInt8) (a1 : List UInt8) : Option Int :=
  (iter (fun s => slices_Compare_195_l1 a0 a1 s) 0).bind fun o => match o with | .stop s2 => (if (decide ((a0.length : Int) < (a1.length : Int))) = true then (some ((-1))) else (some (0))) | .ret r => some r | .next _ => none
theorem slices_Compare_195_ok {w0 : World} {a0 : List UInt8} {a1 : List UInt8} {va0 : Value} {va1 : Value} (h0 : Ro (kf fU8) w0 va0 a0) (h1 : Ro (kf fU8) w0 va1 a1) {r : Int} (hF : slices_Compare_195 a0 a1 = some r) :
    Calls Try.prog 195 [va0, va1].toArray w0 fun e w => ∃ v, e = .returned v ∧ Below w0.heap.size w0 w ∧ .int .i64 r = v := by
  refine calls_of (k := 36) Try.func195 rfl rfl (Nat.le_of_ble_eq_true rfl) fun a hf => ?_
  replace hf : Fr 36 a [(0, va0), (1, va1)] := hf
  refine c_start fun w ρ hw => ?_
  unfold slices_Compare_195 at hF
  refine c_seq <| c_region ?_
  refine s_ hf (r_assign hf rfl) fun a hf => ?_
  refine c_nt <| c_seq <| c_seq <| c_region ?_
  refine s_ hf (r_move hf rfl) fun a hf => ?_
  refine s_ hf (r_len Try.underlying22 (h0.now hw) hf rfl) fun a hf => ?_
  refine s_ hf (r_move hf rfl) fun a hf => ?_
  refine c_nt ?_
  obtain ⟨ol1, ho1, hG1⟩ := of_bind hF
  clear hF
  refine c_block (c_loop (id := 0) (fun s => slices_Compare_195_l1 a0 a1 s) (fun (s2 : Int) a w => ∃ ρ, Wd w0 ρ w ∧ Fr 36 a [(0, va0), (1, va1), (9, va0), (10, vI (a0.length : Int)), (11, vI s2)]) (fun (s2 : Int) a w => ∃ ρ, Wd w0 ρ w ∧ Fr 36 a [(0, va0), (1, va1)]) ho1 ⟨_, hw, hf.sub ⟨rfl, rfl, rfl, rfl, rfl, trivial⟩⟩ ?_ ?_)
  · rintro s2 lr a w ⟨ρ, hw, hf⟩ hF
    replace hF : slices_Compare_195_l1 a0 a1 s2 = some lr := hF
    unfold slices_Compare_195_l1 at hF
    refine c_seq <| c_region ?_
    refine s_ hf (r_lss hf rfl rfl) fun a hf => ?_
    refine c_nt <| c_seq ?_
    rcases of_ite hF with ⟨hb3, hF⟩ | ⟨hb3, hF⟩
    rotate_left
    · refine c_iff hf rfl hb3 <| c_exit <| x_then ?_
      obtain rfl := Option.some.inj hF
      exact Rnd.stops ⟨_, hw, hf.sub ⟨rfl, rfl, trivial⟩⟩
    refine c_ift hf rfl hb3 <| c_skip <| n_then <| c_seq <| c_block <| c_seq <| c_region ?_
    refine s_ hf (r_move hf rfl) fun a hf => ?_
    obtain ⟨hc4, hF⟩ := of_guard hF
    obtain ⟨ad5, c5, he5, hl5⟩ := Ro.el fU8 h0 0 hc4.1 hc4.2
    refine s_ hf (r_idx Try.underlying22 sz5 hf rfl ⟨_, he5⟩ rfl hc4.1 hc4.2) fun a hf => ?_
    refine s_ hf (r_load_cell ty5 hf rfl (hl5.below hw.below)) fun a hf => ?_
    refine s_ hf (r_assign hf rfl) fun a hf => ?_
    refine s_ hf (r_assign hf rfl) fun a hf => ?_
    refine c_nt <| c_seq <| c_seq <| c_region ?_
    refine s_ hf (r_move hf rfl) fun a hf => ?_
    refine s_ hf (r_move hf rfl) fun a hf => ?_
    refine s_ hf (r_len Try.underlying22 (h1.now hw) hf rfl) fun a hf => ?_
    refine s_ hf (r_geq hf rfl rfl) fun a hf => ?_
    refine c_nt ?_
    rcases of_ite hF with ⟨hb6, hF⟩ | ⟨hb6, hF⟩
    · refine c_ift hf rfl hb6 <| c_seq <| c_region ?_
      refine s_ hf (r_assign hf rfl) fun a hf => ?_
      refine c_nt <| c_retc ?_
      obtain rfl := Option.some.inj hF
      refine r_then <| r_block <| r_then ?_
      refine Rnd.rets fun ho => ?_
      subst ho
      have hF := hG1
      dsimp only at hF
      obtain rfl := Option.some.inj hF
      refine r_block <| r_then <| c_ret hf (res_tmp Try.results195 hf rfl) ?_
      exact ⟨_, rfl, hw.below, rfl⟩
    refine c_iff hf rfl hb6 <| c_skip <| n_then <| c_seq <| c_region ?_
    refine s_ hf (r_move hf rfl) fun a hf => ?_
    refine s_ hf (r_move hf rfl) fun a hf => ?_
    obtain ⟨hc7, hF⟩ := of_guard hF
    obtain ⟨ad8, c8, he8, hl8⟩ := Ro.el fU8 h1 0 hc7.1 hc7.2
    refine s_ hf (r_idx Try.underlying22 sz5 hf rfl ⟨_, he8⟩ rfl hc7.1 hc7.2) fun a hf => ?_
    refine s_ hf (r_load_cell ty5 hf rfl (hl8.below hw.below)) fun a hf => ?_
    refine s_ hf (r_assign hf rfl) fun a hf => ?_
    refine c_nt <| c_seq <| c_region ?_
    refine s_ hf (r_move hf rfl) fun a hf => ?_
    refine s_ hf (r_move hf rfl) fun a hf => ?_
    obtain ⟨x9, hx10, hF⟩ := of_bind hF
    refine st_fn 1 hw hf rfl rfl (by decide) (r_fn en206 hf rfl) (cmp_Compare_206_ok  hx10) fun a v w ρ hf hw hE hN hΦ => ?_
    obtain rfl := hΦ
    refine s_ hf (r_assign hf rfl) fun a hf => ?_
    refine c_nt <| c_seq <| c_region ?_
    refine s_ hf (r_move hf rfl) fun a hf => ?_
    refine s_ hf (r_neq hf rfl rfl) fun a hf => ?_
    refine c_nt ?_
    rcases of_ite hF with ⟨hb11, hF⟩ | ⟨hb11, hF⟩
    rotate_left
    · refine c_iff hf rfl hb11 <| c_skip <| n_block <| n_then <| c_region ?_
      refine s_ hf (r_add hf rfl rfl) fun a hf => ?_
      refine s_ hf (r_move hf rfl) fun a hf => ?_
      refine c_nil ?_
      obtain rfl := Option.some.inj hF
      exact Rnd.goes ⟨_, hw, hf.sub ⟨rfl, rfl, rfl, rfl, rfl, trivial⟩⟩
    refine c_ift hf rfl hb11 <| c_seq <| c_region ?_
    refine s_ hf (r_move hf rfl) fun a hf => ?_
    refine s_ hf (r_assign hf rfl) fun a hf => ?_
    refine c_nt <| c_retc ?_
    obtain rfl := Option.some.inj hF
    refine r_block <| r_then ?_
    refine Rnd.rets fun ho => ?_
    subst ho
    have hF := hG1
    dsimp only at hF
    obtain rfl := Option.some.inj hF
    refine r_block <| r_then <| c_ret hf (res_tmp Try.results195 hf rfl) ?_
    exact ⟨_, rfl, hw.below, rfl⟩
  rintro s2 a w hs ⟨ρ, hw, hf⟩
  subst hs
  have hF := hG1
  dsimp only at hF
  refine x_block <| n_then <| c_seq <| c_seq <| c_region ?_
  refine s_ hf (r_move hf rfl) fun a hf => ?_
  refine s_ hf (r_len Try.underlying22 (h0.now hw) hf rfl) fun a hf => ?_
  refine s_ hf (r_move hf rfl) fun a hf => ?_
  refine s_ hf (r_len Try.underlying22 (h1.now hw) hf rfl) fun a hf => ?_
  refine s_ hf (r_lss hf rfl rfl) fun a hf => ?_
  refine c_nt ?_
  rcases of_ite hF with ⟨hb12, hF⟩ | ⟨hb12, hF⟩
  · refine c_ift hf rfl hb12 <| c_seq <| c_region ?_
    refine s_ hf (r_assign hf rfl) fun a hf => ?_
    refine c_nt <| c_retc ?_
    obtain rfl := Option.some.inj hF
    refine r_then <| c_ret hf (res_tmp Try.results195 hf rfl) ?_
    exact ⟨_, rfl, hw.below, rfl⟩
  refine c_iff hf rfl hb12 <| c_skip <| n_then <| c_seq <| c_region ?_
  refine s_ hf (r_assign hf rfl) fun a hf => ?_
  refine c_nt <| c_retc ?_
  obtain rfl := Option.some.inj hF
  refine c_ret hf (res_tmp Try.results195 hf rfl) ?_
  exact ⟨_, rfl, hw.below, rfl⟩
/-! f182 -/
noncomputable def impl_compareProducts (a0 : Prod) (a1 : Prod) : Option Int :=
  (slices_Compare_195 a0.1.toList a1.1.toList).bind fun x1 => (slices_Compare_195 a0.2.1.toList a1.2.1.toList).bind fun x3 => (slices_Compare_195 a0.2.2.toList a1.2.2.toList).bind fun x5 => (cmp_Or_194 ([x1, x3, x5])).bind fun x7 => some (x7)
theorem impl_compareProducts_ok {w0 : World} {a0 : Prod} {a1 : Prod}   {r : Int} (hF : impl_compareProducts a0 a1 = some r) :
    Calls Try.prog 182 [.agg (cProd.enc a0).toArray, .agg (cProd.enc a1).toArray].toArray w0 fun e w => ∃ v, e = .returned v ∧ Below w0.heap.size w0 w ∧ .int .i64 r = v := by
  refine calls_of (k := 22) Try.func182 rfl rfl (Nat.le_of_ble_eq_true rfl) fun a hf => ?_
  replace hf : Fr 22 a [(0, .agg (cProd.enc a0).toArray), (1, .agg (cProd.enc a1).toArray)] := hf
  refine c_start fun w ρ hw => ?_
  unfold impl_compareProducts at hF
  refine c_seq <| c_region ?_
  refine sx_ hf (r_box (cs := cProd.enc a0) 1 hw hf rfl rfl) fun a v w hf hΦ => ?_
  obtain ⟨g1, ρ, rfl, hw, hE, o1⟩ := hΦ
  refine sx_ hf (r_box (cs := cProd.enc a1) 2 hw hf rfl rfl) fun a v w hf hΦ => ?_
  obtain ⟨g2, ρ, rfl, hw, hE, o2⟩ := hΦ
  replace o1 := o1.ext hE
  refine s_ hf (r_assign hf rfl) fun a hf => ?_
  refine c_nt <| c_seq ?_
  obtain ⟨x1, hx2, hF⟩ := of_bind hF
  obtain ⟨x3, hx4, hF⟩ := of_bind hF
  replace hf : Fr 22 a [(2, .pointer (some ((⟨g1, 0, none⟩ : Addr).add 0))), (3, .pointer (some ((⟨g2, 0, none⟩ : Addr).add 0)))] := hf.sub ⟨rfl, rfl, trivial⟩
  refine c_drawL (h := 14) mixed (by kernel_rfl) (by kernel_rfl) (fun ρ w => Va ρ w 1 g1 82 (cProd.enc a0) ∧ Va ρ w 2 g2 82 (cProd.enc a1)) ?_ [fun ρ w v => .pointer (some ((⟨g1, 0, none⟩ : Addr).add (0 + 0))) = v, fun ρ w v => (.slice (some ((⟨g1, 0, none⟩ : Addr).add (0 + 0))) 9 9) = v ∧ Ro (kf fU8) w (.slice (some ((⟨g1, 0, none⟩ : Addr).add (0 + 0))) 9 9) a0.1.toList, fun ρ w v => .pointer (some ((⟨g2, 0, none⟩ : Addr).add (0 + 0))) = v, fun ρ w v => (.slice (some ((⟨g2, 0, none⟩ : Addr).add (0 + 0))) 9 9) = v ∧ Ro (kf fU8) w (.slice (some ((⟨g2, 0, none⟩ : Addr).add (0 + 0))) 9 9) a1.1.toList, fun ρ w v => vI x1 = v, fun ρ w v => .pointer (some ((⟨g1, 0, none⟩ : Addr).add (0 + 9))) = v, fun ρ w v => (.slice (some ((⟨g1, 0, none⟩ : Addr).add (0 + 9))) 9 9) = v ∧ Ro (kf fU8) w (.slice (some ((⟨g1, 0, none⟩ : Addr).add (0 + 9))) 9 9) a0.2.1.toList, fun ρ w v => .pointer (some ((⟨g2, 0, none⟩ : Addr).add (0 + 9))) = v, fun ρ w v => (.slice (some ((⟨g2, 0, none⟩ : Addr).add (0 + 9))) 9 9) = v ∧ Ro (kf fU8) w (.slice (some ((⟨g2, 0, none⟩ : Addr).add (0 + 9))) 9 9) a1.2.1.toList, fun ρ w v => vI x3 = v, fun ρ w v => .pointer (some ((⟨g1, 0, none⟩ : Addr).add (0 + 18))) = v, fun ρ w v => (.slice (some ((⟨g1, 0, none⟩ : Addr).add (0 + 18))) 9 9) = v ∧ Ro (kf fU8) w (.slice (some ((⟨g1, 0, none⟩ : Addr).add (0 + 18))) 9 9) a0.2.2.toList, fun ρ w v => .pointer (some ((⟨g2, 0, none⟩ : Addr).add (0 + 18))) = v, fun ρ w v => (.slice (some ((⟨g2, 0, none⟩ : Addr).add (0 + 18))) 9 9) = v ∧ Ro (kf fU8) w (.slice (some ((⟨g2, 0, none⟩ : Addr).add (0 + 18))) 9 9) a1.2.2.toList] ?_ hw ⟨o1, o2⟩ hf ?_ ?_
  · intro ρ w ρ' w' hE hG
    obtain ⟨o1, o2⟩ := hG
    exact ⟨o1.ext hE, o2.ext hE⟩
  · exact LastsL.cons (fun _ _ _ _ _ _ h => h) <| LastsL.cons (fun _ _ _ _ _ hE h => by obtain ⟨h, o3⟩ := h; exact ⟨h, o3.ext hE⟩) <| LastsL.cons (fun _ _ _ _ _ _ h => h) <| LastsL.cons (fun _ _ _ _ _ hE h => by obtain ⟨h, o4⟩ := h; exact ⟨h, o4.ext hE⟩) <| LastsL.cons (fun _ _ _ _ _ _ h => h) <| LastsL.cons (fun _ _ _ _ _ _ h => h) <| LastsL.cons (fun _ _ _ _ _ hE h => by obtain ⟨h, o6⟩ := h; exact ⟨h, o6.ext hE⟩) <| LastsL.cons (fun _ _ _ _ _ _ h => h) <| LastsL.cons (fun _ _ _ _ _ hE h => by obtain ⟨h, o7⟩ := h; exact ⟨h, o7.ext hE⟩) <| LastsL.cons (fun _ _ _ _ _ _ h => h) <| LastsL.cons (fun _ _ _ _ _ _ h => h) <| LastsL.cons (fun _ _ _ _ _ hE h => by obtain ⟨h, o9⟩ := h; exact ⟨h, o9.ext hE⟩) <| LastsL.cons (fun _ _ _ _ _ _ h => h) <| LastsL.cons (fun _ _ _ _ _ hE h => by obtain ⟨h, o10⟩ := h; exact ⟨h, o10.ext hE⟩) <| LastsL.nil
  · refine StepsB.cons ?_ <| StepsB.cons ?_ <| StepsB.cons ?_ <| StepsB.cons ?_ <| StepsB.cons ?_ <| StepsB.cons ?_ <| StepsB.cons ?_ <| StepsB.cons ?_ <| StepsB.cons ?_ <| StepsB.cons ?_ <| StepsB.cons ?_ <| StepsB.cons ?_ <| StepsB.cons ?_ <| StepsB.cons ?_ <| StepsB.nil
    · intro ρ w a hw hG hf hd K hK
      obtain ⟨o1, o2⟩ := hG
      exact dv_ hK hw (wn rfl) (r_fa fa82_0 hf rfl) rfl
    · intro ρ w a hw hG hf hd K hK
      obtain ⟨o1, o2⟩ := hG
      obtain ⟨_, hf, rfl⟩ := got (hd 0 (by kernel_rfl)) hf
      have o3 : Ro (kf fU8) w (.slice (some ((⟨g1, 0, none⟩ : Addr).add (0 + 0))) 9 9) a0.1.toList := cl_ro (mm := 9) (xs := a0.1) (o1.cl.lens lProd_0) (by decide)
      exact dv_ hK hw (wn rfl) (r_cut_arr (mm := 9) Try.underlying80 sz5 (by decide) hf rfl) (an_ rfl <| o3)
    · intro ρ w a hw hG hf hd K hK
      obtain ⟨o1, o2⟩ := hG
      exact dv_ hK hw (wn rfl) (r_fa fa82_0 hf rfl) rfl
    · intro ρ w a hw hG hf hd K hK
      obtain ⟨o1, o2⟩ := hG
      obtain ⟨_, hf, rfl⟩ := got (hd 2 (by kernel_rfl)) hf
      have o4 : Ro (kf fU8) w (.slice (some ((⟨g2, 0, none⟩ : Addr).add (0 + 0))) 9 9) a1.1.toList := cl_ro (mm := 9) (xs := a1.1) (o2.cl.lens lProd_0) (by decide)
      exact dv_ hK hw (wn rfl) (r_cut_arr (mm := 9) Try.underlying80 sz5 (by decide) hf rfl) (an_ rfl <| o4)
    · intro ρ w a hw hG hf hd K hK
      obtain ⟨o1, o2⟩ := hG
      obtain ⟨_, hf, ⟨rfl, o3⟩⟩ := got (hd 1 (by kernel_rfl)) hf
      obtain ⟨_, hf, ⟨rfl, o4⟩⟩ := got (hd 3 (by kernel_rfl)) hf
      refine dc_ hK hw (wn rfl) (r_fn en195 hf rfl) (slices_Compare_195_ok o3 o4 hx2) fun v w' hΦ => ?_
      obtain ⟨hb, hΦ⟩ := hΦ
      obtain rfl := hΦ
      have hE := Ext.new (ρ := ρ) 5 hb
      exact ⟨_, hw.new 5 hb, hE, rfl⟩
    · intro ρ w a hw hG hf hd K hK
      obtain ⟨o1, o2⟩ := hG
      exact dv_ hK hw (wn rfl) (r_fa fa82_1 hf rfl) rfl
    · intro ρ w a hw hG hf hd K hK
      obtain ⟨o1, o2⟩ := hG
      obtain ⟨_, hf, rfl⟩ := got (hd 5 (by kernel_rfl)) hf
      have o6 : Ro (kf fU8) w (.slice (some ((⟨g1, 0, none⟩ : Addr).add (0 + 9))) 9 9) a0.2.1.toList := cl_ro (mm := 9) (xs := a0.2.1) (o1.cl.lens lProd_1) (by decide)
      exact dv_ hK hw (wn rfl) (r_cut_arr (mm := 9) Try.underlying80 sz5 (by decide) hf rfl) (an_ rfl <| o6)
    · intro ρ w a hw hG hf hd K hK
      obtain ⟨o1, o2⟩ := hG
      exact dv_ hK hw (wn rfl) (r_fa fa82_1 hf rfl) rfl
    · intro ρ w a hw hG hf hd K hK
      obtain ⟨o1, o2⟩ := hG
      obtain ⟨_, hf, rfl⟩ := got (hd 7 (by kernel_rfl)) hf
      have o7 : Ro (kf fU8) w (.slice (some ((⟨g2, 0, none⟩ : Addr).add (0 + 9))) 9 9) a1.2.1.toList := cl_ro (mm := 9) (xs := a1.2.1) (o2.cl.lens lProd_1) (by decide)
      exact dv_ hK hw (wn rfl) (r_cut_arr (mm := 9) Try.underlying80 sz5 (by decide) hf rfl) (an_ rfl <| o7)
    · intro ρ w a hw hG hf hd K hK
      obtain ⟨o1, o2⟩ := hG
      obtain ⟨_, hf, ⟨rfl, o6⟩⟩ := got (hd 6 (by kernel_rfl)) hf
      obtain ⟨_, hf, ⟨rfl, o7⟩⟩ := got (hd 8 (by kernel_rfl)) hf
      refine dc_ hK hw (wn rfl) (r_fn en195 hf rfl) (slices_Compare_195_ok o6 o7 hx4) fun v w' hΦ => ?_
      obtain ⟨hb, hΦ⟩ := hΦ
      obtain rfl := hΦ
      have hE := Ext.new (ρ := ρ) 8 hb
      exact ⟨_, hw.new 8 hb, hE, rfl⟩
    · intro ρ w a hw hG hf hd K hK
      obtain ⟨o1, o2⟩ := hG
      exact dv_ hK hw (wn rfl) (r_fa fa82_2 hf rfl) rfl
    · intro ρ w a hw hG hf hd K hK
      obtain ⟨o1, o2⟩ := hG
      obtain ⟨_, hf, rfl⟩ := got (hd 10 (by kernel_rfl)) hf
      have o9 : Ro (kf fU8) w (.slice (some ((⟨g1, 0, none⟩ : Addr).add (0 + 18))) 9 9) a0.2.2.toList := cl_ro (mm := 9) (xs := a0.2.2) (o1.cl.lens lProd_2) (by decide)
      exact dv_ hK hw (wn rfl) (r_cut_arr (mm := 9) Try.underlying80 sz5 (by decide) hf rfl) (an_ rfl <| o9)
    · intro ρ w a hw hG hf hd K hK
      obtain ⟨o1, o2⟩ := hG
      exact dv_ hK hw (wn rfl) (r_fa fa82_2 hf rfl) rfl
    · intro ρ w a hw hG hf hd K hK
      obtain ⟨o1, o2⟩ := hG
      obtain ⟨_, hf, rfl⟩ := got (hd 12 (by kernel_rfl)) hf
      have o10 : Ro (kf fU8) w (.slice (some ((⟨g2, 0, none⟩ : Addr).add (0 + 18))) 9 9) a1.2.2.toList := cl_ro (mm := 9) (xs := a1.2.2) (o2.cl.lens lProd_2) (by decide)
      exact dv_ hK hw (wn rfl) (r_cut_arr (mm := 9) Try.underlying80 sz5 (by decide) hf rfl) (an_ rfl <| o10)
  intro ρ w a hw hG hf hd
  obtain ⟨o1, o2⟩ := hG
  obtain ⟨_, hf, rfl⟩ := got (hd 4 (by decide)) hf
  obtain ⟨_, hf, rfl⟩ := got (hd 9 (by decide)) hf
  obtain ⟨_, hf, ⟨rfl, o9⟩⟩ := got (hd 11 (by decide)) hf
  obtain ⟨_, hf, ⟨rfl, o10⟩⟩ := got (hd 13 (by decide)) hf
  obtain ⟨x5, hx6, hF⟩ := of_bind hF
  refine st_fn 11 hw hf rfl rfl (by decide) (r_fn en195 hf rfl) (slices_Compare_195_ok o9 o10 hx6) fun a v w ρ hf hw hE hN hΦ => ?_
  obtain rfl := hΦ
  replace o1 := o1.ext hE
  replace o2 := o2.ext hE
  replace o9 := o9.ext hE
  replace o10 := o10.ext hE
  refine sx_ hf (r_lit (d := fI64) (xs := ([x1, x3, x5] : List Int)) (vs := [vI x1, vI x3, vI x5]) 12 Try.underlying195 el3 (Nat.le_of_ble_eq_true rfl) (Nat.le_of_ble_eq_true rfl) hw hf rfl rfl rfl) fun a v12 w hf hΦ => ?_
  obtain ⟨ρ, hw, hE, o12⟩ := hΦ
  replace o1 := o1.ext hE
  replace o2 := o2.ext hE
  replace o9 := o9.ext hE
  replace o10 := o10.ext hE
  obtain ⟨x7, hx8, hF⟩ := of_bind hF
  refine st_fn 13 hw hf rfl rfl (by decide) (r_fn en194 hf rfl) (cmp_Or_194_ok o12.ro hx8) fun a v w ρ hf hw hE hN hΦ => ?_
  obtain rfl := hΦ
  replace o1 := o1.ext hE
  replace o2 := o2.ext hE
  replace o9 := o9.ext hE
  replace o10 := o10.ext hE
  replace o12 := o12.ext hE
  refine s_ hf (r_assign hf rfl) fun a hf => ?_
  refine c_nt <| c_retc ?_
  obtain rfl := Option.some.inj hF
  refine c_ret hf (res_tmp Try.results182 hf rfl) ?_
  exact ⟨_, rfl, hw.below, rfl⟩
/-! f100 -/
noncomputable def spec_l01Sorted_l10 (a0 : Sch) (s6 : Int) (s7 : List Prod) (s11 : Int) : Option (LR Int Sch) :=
  (if (decide (s11 < (s7.length : Int))) = true then (if 0 ≤ s6 ∧ s6 < (a0.ps.length : Int) then (if 0 ≤ s11 ∧ s11 < (s7.length : Int) then ((spec_l01Less (gl zProd a0.ps s6) (gl zProd s7 s11)).bind fun x19 => some (!x19)) else none) else none) else (some false)).bind fun (s13 : Bool) => if s13 = true then (some (.next (w64 (s11 + 1)))) else (some (.stop s11))
noncomputable def spec_l01Sorted_l5 (a0 : Sch) (s6 : Int) (s7 : List Prod) : Option (LR (Int × (List Prod)) Sch) :=
  if (decide (s6 < (a0.ps.length : Int))) = true then ((iter (fun s => spec_l01Sorted_l10 a0 s6 s7 s) 0).bind fun o => match o with | .stop s11 => (if 0 ≤ s6 ∧ s6 < (a0.ps.length : Int) then (if 0 ≤ s11 ∧ s11 ≤ (s7.length : Int) then (if (([gl zProd a0.ps s6]).length + ((s7.take (s7.length : Int).toNat).drop s11.toNat).length) * 27 ≤ 140737488355328 then (if (0 : Int) ≤ s11 ∧ s11 ≤ (s7.length : Int) then (if (([] : List Prod).length + ((s7.take s11.toNat).drop (0 : Int).toNat).length) * 27 ≤ 140737488355328 then (if ((([] : List Prod) ++ ((s7.take s11.toNat).drop (0 : Int).toNat)).length + ([gl zProd a0.ps s6] ++ ((s7.take (s7.length : Int).toNat).drop s11.toNat)).length) * 27 ≤ 140737488355328 then (some (.next (w64 (s6 + 1), ((([] : List Prod) ++ ((s7.take s11.toNat).drop (0 : Int).toNat)) ++ ([gl zProd a0.ps s6] ++ ((s7.take (s7.length : Int).toNat).drop s11.toNat)))))) else none) else none) else none) else none) else none) else none) | .ret r => some (.ret r) | .next _ => none) else (some (.stop (s6, s7)))
noncomputable def spec_l01Sorted (a0 : Sch) : Option Sch :=
  (spec_l01Empty a0).bind fun x1 => (iter (fun s => spec_l01Sorted_l5 a0 s.1 s.2) (0, x1.ps)).bind fun o => match o with | .stop (s6, s7) => (some ((⟨x1.p, x1.n, x1.m, x1.k, s7⟩ : Sch))) | .ret r => some r | .next _ => none
theorem spec_l01Sorted_ok {w0 : World} {a0 : Sch} {va0 : Value} (h0 : Ro (kf cProd) w0 va0 a0.ps) {r : Sch} (hF : spec_l01Sorted a0 = some r) :
    Calls Try.prog 100 [.agg ([vI a0.p, vI a0.n, vI a0.m, vI a0.k, va0]).toArray].toArray w0 fun e w => ∃ v, e = .returned v ∧ Below w0.heap.size w0 w ∧ ∃ u0, .agg [.int .i64 r.p, .int .i64 r.n, .int .i64 r.m, .int .i64 r.k, u0].toArray = v ∧ Fresh (kf cProd) 82 w0 w u0 r.ps := by
  refine calls_of (k := 58) Try.func100 rfl rfl (Nat.le_of_ble_eq_true rfl) fun a hf => ?_
  replace hf : Fr 58 a [(0, .agg ([vI a0.p, vI a0.n, vI a0.m, vI a0.k, va0]).toArray)] := hf
  refine c_start fun w ρ hw => ?_
  unfold spec_l01Sorted at hF
  refine c_seq <| c_region ?_
  refine sx_ hf (r_box (cs := [vI a0.p, vI a0.n, vI a0.m, vI a0.k, va0]) 1 hw hf rfl rfl) fun a v w hf hΦ => ?_
  obtain ⟨g1, ρ, rfl, hw, hE, o1⟩ := hΦ
  have o3 : Ow (kf cProd) 82 ρ w w0.heap.size 3 (.slice none 0 0) [] := Ow.nil _ _ _ _ _ _
  refine sx_ hf (r_alloc (cs := [vI 0, vI 0, vI 0, vI 0, (.slice none 0 0)]) 2 ze39 rfl hw) fun a v w hf hΦ => ?_
  obtain ⟨g2, ρ, rfl, hw, hE, o2⟩ := hΦ
  replace o1 := o1.ext hE
  replace o3 := o3.ext hE
  refine c_nt <| c_seq <| c_region ?_
  refine s_ hf (r_load_agg ty39 hf rfl o1.cl rfl) fun a hf => ?_
  obtain ⟨x1, hx2, hF⟩ := of_bind hF
  refine st_fn 4 hw hf rfl rfl (by decide) (r_fn en136 hf rfl) (spec_l01Empty_ok (a0 := a0) (h0.now hw) hx2) fun a v w ρ hf hw hE hN hΦ => ?_
  obtain ⟨u3, rfl, hr4⟩ := hΦ
  replace o1 := o1.ext hE
  replace o3 := o3.ext hE
  replace o2 := o2.ext hE
  have o4 := hN hr4
  have o6 : Ow (kf cProd) 82 ρ w w0.heap.size 6 (.slice none 0 0) [] := Ow.nil _ _ _ _ _ _
  refine sx_ hf (r_alloc (cs := [vI 0, vI 0, vI 0, vI 0, (.slice none 0 0)]) 5 ze39 rfl hw) fun a v w hf hΦ => ?_
  obtain ⟨g5, ρ, rfl, hw, hE, o5⟩ := hΦ
  replace o1 := o1.ext hE
  replace o3 := o3.ext hE
  replace o2 := o2.ext hE
  replace o4 := o4.ext hE
  replace o6 := o6.ext hE
  refine sk_ hf (r_store_w (cs' := [vI x1.p, vI x1.n, vI x1.m, vI x1.k, u3]) hw o5 (by decide) ty39 rfl rfl (one_sch o4.ro.one) hf rfl rfl rfl) fun a w hf hΦ => ?_
  obtain ⟨hw, hA, o5⟩ := hΦ
  replace o1 := o1.adv hA (by decide)
  replace o3 := o3.adv hA (by decide)
  replace o2 := o2.adv hA (by decide)
  replace o4 := o4.adv hA (by decide)
  replace o6 := o6.adv hA (by decide)
  refine c_nt <| c_seq <| c_seq <| c_region ?_
  refine s_ hf (r_assign hf rfl) fun a hf => ?_
  refine c_nt ?_
  obtain ⟨ol5, ho5, hG5⟩ := of_bind hF
  clear hF
  refine c_block (c_loop (id := 0) (fun s => spec_l01Sorted_l5 a0 s.1 s.2) (fun (s : Int × (List Prod)) a w => match s with | (s6, s7) => ∃ ρ vv8, Wd w0 ρ w ∧ Fr 58 a [(1, .pointer (some ((⟨g1, 0, none⟩ : Addr).add 0))), (2, .pointer (some ((⟨g2, 0, none⟩ : Addr).add 0))), (3, .pointer (some ((⟨g5, 0, none⟩ : Addr).add 0))), (4, vI s6)] ∧ Va ρ w 1 g1 39 ([vI a0.p, vI a0.n, vI a0.m, vI a0.k, va0]) ∧ Va ρ w 2 g2 39 ([vI 0, vI 0, vI 0, vI 0, (.slice none 0 0)]) ∧ O82 ρ w w0 3 (.slice none 0 0) ([] : List Prod) ∧ O82 ρ w w0 4 vv8 s7 ∧ Va ρ w 5 g5 39 ([vI x1.p, vI x1.n, vI x1.m, vI x1.k, vv8])) (fun (s : Int × (List Prod)) a w => match s with | (s6, s7) => ∃ ρ vv8, Wd w0 ρ w ∧ Fr 58 a [(2, .pointer (some ((⟨g2, 0, none⟩ : Addr).add 0))), (3, .pointer (some ((⟨g5, 0, none⟩ : Addr).add 0)))] ∧ Va ρ w 2 g2 39 ([vI 0, vI 0, vI 0, vI 0, (.slice none 0 0)]) ∧ O82 ρ w w0 3 (.slice none 0 0) ([] : List Prod) ∧ O82 ρ w w0 4 vv8 s7 ∧ Va ρ w 5 g5 39 ([vI x1.p, vI x1.n, vI x1.m, vI x1.k, vv8])) ho5 ⟨_, _, hw, hf.sub ⟨rfl, rfl, rfl, rfl, trivial⟩, o1, o2, o3, o4, o5⟩ ?_ ?_)
  · rintro ⟨s6, s7⟩ lr a w ⟨ρ, vv8, hw, hf, o1, o2, o3, o4, o5⟩ hF
    replace hF : spec_l01Sorted_l5 a0 s6 s7 = some lr := hF
    unfold spec_l01Sorted_l5 at hF
    refine c_seq <| c_seq <| c_region ?_
    refine s_ hf (r_move hf rfl) fun a hf => ?_
    refine s_ hf (r_fa fa39_4 hf rfl) fun a hf => ?_
    refine s_ hf (r_load_cell ty37 hf rfl (o1.cl.at_ 4 _ rfl)) fun a hf => ?_
    refine s_ hf (r_len Try.underlying37 (h0.now hw) hf rfl) fun a hf => ?_
    refine s_ hf (r_lss hf rfl rfl) fun a hf => ?_
    refine c_nt ?_
    rcases of_ite hF with ⟨hb9, hF⟩ | ⟨hb9, hF⟩
    rotate_left
    · refine c_iff hf rfl hb9 <| c_exit <| x_then ?_
      obtain rfl := Option.some.inj hF
      exact Rnd.stops ⟨_, _, hw, hf.sub ⟨rfl, rfl, trivial⟩, o2, o3, o4, o5⟩
    refine c_ift hf rfl hb9 <| c_skip <| n_then <| c_seq <| c_block <| c_seq <| c_region ?_
    refine s_ hf (r_assign hf rfl) fun a hf => ?_
    refine c_nt <| c_seq ?_
    obtain ⟨ol10, ho10, hG10⟩ := of_bind hF
    clear hF
    refine c_block (c_loop (id := 2) (fun s => spec_l01Sorted_l10 a0 s6 s7 s) (fun (s11 : Int) a w => ∃ ρ, Wd w0 ρ w ∧ Fr 58 a [(1, .pointer (some ((⟨g1, 0, none⟩ : Addr).add 0))), (2, .pointer (some ((⟨g2, 0, none⟩ : Addr).add 0))), (3, .pointer (some ((⟨g5, 0, none⟩ : Addr).add 0))), (4, vI s6), (5, vI s11)] ∧ Va ρ w 1 g1 39 ([vI a0.p, vI a0.n, vI a0.m, vI a0.k, va0]) ∧ Va ρ w 2 g2 39 ([vI 0, vI 0, vI 0, vI 0, (.slice none 0 0)]) ∧ O82 ρ w w0 3 (.slice none 0 0) ([] : List Prod) ∧ O82 ρ w w0 4 vv8 s7 ∧ Va ρ w 5 g5 39 ([vI x1.p, vI x1.n, vI x1.m, vI x1.k, vv8])) (fun (s11 : Int) a w => ∃ ρ, Wd w0 ρ w ∧ Fr 58 a [(1, .pointer (some ((⟨g1, 0, none⟩ : Addr).add 0))), (2, .pointer (some ((⟨g2, 0, none⟩ : Addr).add 0))), (3, .pointer (some ((⟨g5, 0, none⟩ : Addr).add 0))), (4, vI s6), (5, vI s11)] ∧ Va ρ w 1 g1 39 ([vI a0.p, vI a0.n, vI a0.m, vI a0.k, va0]) ∧ Va ρ w 2 g2 39 ([vI 0, vI 0, vI 0, vI 0, (.slice none 0 0)]) ∧ O82 ρ w w0 3 (.slice none 0 0) ([] : List Prod) ∧ O82 ρ w w0 4 vv8 s7 ∧ Va ρ w 5 g5 39 ([vI x1.p, vI x1.n, vI x1.m, vI x1.k, vv8])) ho10 ⟨_, hw, hf.sub ⟨rfl, rfl, rfl, rfl, rfl, trivial⟩, o1, o2, o3, o4, o5⟩ ?_ ?_)
    · rintro s11 lr a w ⟨ρ, hw, hf, o1, o2, o3, o4, o5⟩ hF
      replace hF : spec_l01Sorted_l10 a0 s6 s7 s11 = some lr := hF
      unfold spec_l01Sorted_l10 at hF
      refine c_seq <| c_seq ?_
      obtain ⟨s13, hT12, hG12⟩ := of_bind hF
      clear hF
      refine c_meet (fun (s13 : Bool) a w => ∃ ρ, Wd w0 ρ w ∧ Fr 58 a [(1, .pointer (some ((⟨g1, 0, none⟩ : Addr).add 0))), (2, .pointer (some ((⟨g2, 0, none⟩ : Addr).add 0))), (3, .pointer (some ((⟨g5, 0, none⟩ : Addr).add 0))), (4, vI s6), (5, vI s11), (34, .bool s13)] ∧ Va ρ w 1 g1 39 ([vI a0.p, vI a0.n, vI a0.m, vI a0.k, va0]) ∧ Va ρ w 2 g2 39 ([vI 0, vI 0, vI 0, vI 0, (.slice none 0 0)]) ∧ O82 ρ w w0 3 (.slice none 0 0) ([] : List Prod) ∧ O82 ρ w w0 4 vv8 s7 ∧ Va ρ w 5 g5 39 ([vI x1.p, vI x1.n, vI x1.m, vI x1.k, vv8])) s13 ?_ ?_
      · have hF := hT12
        rcases of_ite hF with ⟨hb14, hF⟩ | ⟨hb14, hF⟩
        rotate_left
        · replace hf : Fr 58 a [(1, .pointer (some ((⟨g1, 0, none⟩ : Addr).add 0))), (2, .pointer (some ((⟨g2, 0, none⟩ : Addr).add 0))), (3, .pointer (some ((⟨g5, 0, none⟩ : Addr).add 0))), (4, vI s6), (5, vI s11)] := hf.sub ⟨rfl, rfl, rfl, rfl, rfl, trivial⟩
          refine c_drawL (h := 16) mixed (by kernel_rfl) (by kernel_rfl) (fun ρ w => Va ρ w 1 g1 39 ([vI a0.p, vI a0.n, vI a0.m, vI a0.k, va0]) ∧ Va ρ w 2 g2 39 ([vI 0, vI 0, vI 0, vI 0, (.slice none 0 0)]) ∧ O82 ρ w w0 3 (.slice none 0 0) ([] : List Prod) ∧ O82 ρ w w0 4 vv8 s7 ∧ Va ρ w 5 g5 39 ([vI x1.p, vI x1.n, vI x1.m, vI x1.k, vv8])) ?_ [fun ρ w v => vI s11 = v, fun ρ w v => .pointer (some ((⟨g5, 0, none⟩ : Addr).add (0 + 4))) = v, fun ρ w v => vv8 = v, fun ρ w v => vI (s7.length : Int) = v, fun ρ w v => .bool (decide (s11 < (s7.length : Int))) = v, fun ρ w v => .bool (decide (s11 < (s7.length : Int))) = v, fun ρ w v => undef = v, fun ρ w v => undef = v, fun ρ w v => undef = v, fun ρ w v => undef = v, fun ρ w v => undef = v, fun ρ w v => undef = v, fun ρ w v => undef = v, fun ρ w v => undef = v, fun ρ w v => undef = v, fun ρ w v => undef = v] ?_ hw ⟨o1, o2, o3, o4, o5⟩ hf ?_ ?_
          · intro ρ w ρ' w' hE hG
            obtain ⟨o1, o2, o3, o4, o5⟩ := hG
            exact ⟨o1.ext hE, o2.ext hE, o3.ext hE, o4.ext hE, o5.ext hE⟩
          · exact LastsL.cons (fun _ _ _ _ _ _ h => h) <| LastsL.cons (fun _ _ _ _ _ _ h => h) <| LastsL.cons (fun _ _ _ _ _ _ h => h) <| LastsL.cons (fun _ _ _ _ _ _ h => h) <| LastsL.cons (fun _ _ _ _ _ _ h => h) <| LastsL.cons (fun _ _ _ _ _ _ h => h) <| LastsL.cons (fun _ _ _ _ _ _ h => h) <| LastsL.cons (fun _ _ _ _ _ _ h => h) <| LastsL.cons (fun _ _ _ _ _ _ h => h) <| LastsL.cons (fun _ _ _ _ _ _ h => h) <| LastsL.cons (fun _ _ _ _ _ _ h => h) <| LastsL.cons (fun _ _ _ _ _ _ h => h) <| LastsL.cons (fun _ _ _ _ _ _ h => h) <| LastsL.cons (fun _ _ _ _ _ _ h => h) <| LastsL.cons (fun _ _ _ _ _ _ h => h) <| LastsL.cons (fun _ _ _ _ _ _ h => h) <| LastsL.nil
          · refine StepsB.cons ?_ <| StepsB.cons ?_ <| StepsB.cons ?_ <| StepsB.cons ?_ <| StepsB.cons ?_ <| StepsB.cons ?_ <| StepsB.cons ?_ <| StepsB.cons ?_ <| StepsB.cons ?_ <| StepsB.cons ?_ <| StepsB.cons ?_ <| StepsB.cons ?_ <| StepsB.cons ?_ <| StepsB.cons ?_ <| StepsB.cons ?_ <| StepsB.cons ?_ <| StepsB.nil
            · intro ρ w a hw hG hf hd K hK
              obtain ⟨o1, o2, o3, o4, o5⟩ := hG
              exact dv_ hK hw (wn rfl) (r_move hf rfl) rfl
            · intro ρ w a hw hG hf hd K hK
              obtain ⟨o1, o2, o3, o4, o5⟩ := hG
              exact dv_ hK hw (wn rfl) (r_fa fa39_4 hf rfl) rfl
            · intro ρ w a hw hG hf hd K hK
              obtain ⟨o1, o2, o3, o4, o5⟩ := hG
              obtain ⟨_, hf, rfl⟩ := got (hd 1 (by kernel_rfl)) hf
              exact dv_ hK hw (wn rfl) (r_load_cell ty37 hf rfl (o5.cl.at_ 4 _ rfl)) rfl
            · intro ρ w a hw hG hf hd K hK
              obtain ⟨o1, o2, o3, o4, o5⟩ := hG
              obtain ⟨_, hf, rfl⟩ := got (hd 2 (by kernel_rfl)) hf
              exact dv_ hK hw (wn rfl) (r_len Try.underlying37 o4.ro hf rfl) rfl
            · intro ρ w a hw hG hf hd K hK
              obtain ⟨o1, o2, o3, o4, o5⟩ := hG
              obtain ⟨_, hf, rfl⟩ := got (hd 0 (by kernel_rfl)) hf
              obtain ⟨_, hf, rfl⟩ := got (hd 3 (by kernel_rfl)) hf
              exact dv_ hK hw (wn rfl) (r_lss hf rfl rfl) rfl
            · intro ρ w a hw hG hf hd K hK
              obtain ⟨o1, o2, o3, o4, o5⟩ := hG
              obtain ⟨_, hf, rfl⟩ := got (hd 4 (by kernel_rfl)) hf
              exact dv_ hK hw (wn rfl) (r_move hf rfl) rfl
            · intro ρ w a hw hG hf hd K hK
              obtain ⟨o1, o2, o3, o4, o5⟩ := hG
              obtain ⟨_, hf, rfl⟩ := got (hd 5 (by kernel_rfl)) hf
              exact do_ hK (b := false) hw hf rfl rfl rfl hb14 rfl rfl
            · intro ρ w a hw hG hf hd K hK
              obtain ⟨o1, o2, o3, o4, o5⟩ := hG
              obtain ⟨_, hf, rfl⟩ := got (hd 5 (by kernel_rfl)) hf
              obtain ⟨_, hf, rfl⟩ := got (hd 6 (by kernel_rfl)) hf
              exact do_ hK (b := false) hw hf rfl rfl rfl hb14 rfl rfl
            · intro ρ w a hw hG hf hd K hK
              obtain ⟨o1, o2, o3, o4, o5⟩ := hG
              obtain ⟨_, hf, rfl⟩ := got (hd 5 (by kernel_rfl)) hf
              exact do_ hK (b := false) hw hf rfl rfl rfl hb14 rfl rfl
            · intro ρ w a hw hG hf hd K hK
              obtain ⟨o1, o2, o3, o4, o5⟩ := hG
              obtain ⟨_, hf, rfl⟩ := got (hd 5 (by kernel_rfl)) hf
              obtain ⟨_, hf, rfl⟩ := got (hd 7 (by kernel_rfl)) hf
              obtain ⟨_, hf, rfl⟩ := got (hd 8 (by kernel_rfl)) hf
              exact do_ hK (b := false) hw hf rfl rfl rfl hb14 rfl rfl
            · intro ρ w a hw hG hf hd K hK
              obtain ⟨o1, o2, o3, o4, o5⟩ := hG
              obtain ⟨_, hf, rfl⟩ := got (hd 5 (by kernel_rfl)) hf
              obtain ⟨_, hf, rfl⟩ := got (hd 9 (by kernel_rfl)) hf
              exact do_ hK (b := false) hw hf rfl rfl rfl hb14 rfl rfl
            · intro ρ w a hw hG hf hd K hK
              obtain ⟨o1, o2, o3, o4, o5⟩ := hG
              obtain ⟨_, hf, rfl⟩ := got (hd 5 (by kernel_rfl)) hf
              exact do_ hK (b := false) hw hf rfl rfl rfl hb14 rfl rfl
            · intro ρ w a hw hG hf hd K hK
              obtain ⟨o1, o2, o3, o4, o5⟩ := hG
              obtain ⟨_, hf, rfl⟩ := got (hd 5 (by kernel_rfl)) hf
              obtain ⟨_, hf, rfl⟩ := got (hd 11 (by kernel_rfl)) hf
              exact do_ hK (b := false) hw hf rfl rfl rfl hb14 rfl rfl
            · intro ρ w a hw hG hf hd K hK
              obtain ⟨o1, o2, o3, o4, o5⟩ := hG
              obtain ⟨_, hf, rfl⟩ := got (hd 5 (by kernel_rfl)) hf
              exact do_ hK (b := false) hw hf rfl rfl rfl hb14 rfl rfl
            · intro ρ w a hw hG hf hd K hK
              obtain ⟨o1, o2, o3, o4, o5⟩ := hG
              obtain ⟨_, hf, rfl⟩ := got (hd 5 (by kernel_rfl)) hf
              obtain ⟨_, hf, rfl⟩ := got (hd 12 (by kernel_rfl)) hf
              obtain ⟨_, hf, rfl⟩ := got (hd 13 (by kernel_rfl)) hf
              exact do_ hK (b := false) hw hf rfl rfl rfl hb14 rfl rfl
            · intro ρ w a hw hG hf hd K hK
              obtain ⟨o1, o2, o3, o4, o5⟩ := hG
              obtain ⟨_, hf, rfl⟩ := got (hd 5 (by kernel_rfl)) hf
              obtain ⟨_, hf, rfl⟩ := got (hd 14 (by kernel_rfl)) hf
              exact do_ hK (b := false) hw hf rfl rfl rfl hb14 rfl rfl
          intro ρ w a hw hG hf hd
          obtain ⟨o1, o2, o3, o4, o5⟩ := hG
          obtain ⟨_, hf, rfl⟩ := got (hd 5 (by decide)) hf
          obtain ⟨_, hf, rfl⟩ := got (hd 10 (by decide)) hf
          obtain ⟨_, hf, rfl⟩ := got (hd 15 (by decide)) hf
          refine st_no (b := false) hf rfl rfl rfl hb14 rfl (by decide) fun a hf => ?_
          refine st_no (b := false) hf rfl rfl rfl hb14 rfl (by decide) fun a hf => ?_
          refine s_ hf (r_pick (b := false) hf rfl hb14 rfl) fun a hf => ?_
          refine c_nil ⟨rfl, ?_⟩
          obtain rfl := Option.some.inj hF
          exact ⟨_, hw, hf.sub ⟨rfl, rfl, rfl, rfl, rfl, rfl, trivial⟩, o1, o2, o3, o4, o5⟩
        obtain ⟨hc15, hF⟩ := of_guard hF
        obtain ⟨ad16, c16, he16, hl16⟩ := Ro.el cProd h0 zProd hc15.1 hc15.2
        obtain ⟨hc17, hF⟩ := of_guard hF
        replace hf : Fr 58 a [(1, .pointer (some ((⟨g1, 0, none⟩ : Addr).add 0))), (2, .pointer (some ((⟨g2, 0, none⟩ : Addr).add 0))), (3, .pointer (some ((⟨g5, 0, none⟩ : Addr).add 0))), (4, vI s6), (5, vI s11)] := hf.sub ⟨rfl, rfl, rfl, rfl, rfl, trivial⟩
        refine c_drawL (h := 16) mixed (by kernel_rfl) (by kernel_rfl) (fun ρ w => Va ρ w 1 g1 39 ([vI a0.p, vI a0.n, vI a0.m, vI a0.k, va0]) ∧ Va ρ w 2 g2 39 ([vI 0, vI 0, vI 0, vI 0, (.slice none 0 0)]) ∧ O82 ρ w w0 3 (.slice none 0 0) ([] : List Prod) ∧ O82 ρ w w0 4 vv8 s7 ∧ Va ρ w 5 g5 39 ([vI x1.p, vI x1.n, vI x1.m, vI x1.k, vv8])) ?_ [fun ρ w v => vI s11 = v, fun ρ w v => .pointer (some ((⟨g5, 0, none⟩ : Addr).add (0 + 4))) = v, fun ρ w v => vv8 = v, fun ρ w v => vI (s7.length : Int) = v, fun ρ w v => .bool (decide (s11 < (s7.length : Int))) = v, fun ρ w v => .bool (decide (s11 < (s7.length : Int))) = v, fun ρ w v => .pointer (some ((⟨g1, 0, none⟩ : Addr).add (0 + 4))) = v, fun ρ w v => va0 = v, fun ρ w v => vI s6 = v, fun ρ w v => .pointer (some (ad16.add (s6.toNat * 27))) = v, fun ρ w v => .agg (cProd.enc (gl zProd a0.ps s6)).toArray = v, fun ρ w v => .pointer (some ((⟨g5, 0, none⟩ : Addr).add (0 + 4))) = v, fun ρ w v => vv8 = v, fun ρ w v => vI s11 = v, fun ρ w v => ∃ ad18, .pointer (some (ad18.add (s11.toNat * 27))) = v ∧ Ce ρ w 4 vv8 s7.length ad18 (s11.toNat * 27) (cProd.enc (gl zProd s7 s11)), fun ρ w v => .agg (cProd.enc (gl zProd s7 s11)).toArray = v] ?_ hw ⟨o1, o2, o3, o4, o5⟩ hf ?_ ?_
        · intro ρ w ρ' w' hE hG
          obtain ⟨o1, o2, o3, o4, o5⟩ := hG
          exact ⟨o1.ext hE, o2.ext hE, o3.ext hE, o4.ext hE, o5.ext hE⟩
        · exact LastsL.cons (fun _ _ _ _ _ _ h => h) <| LastsL.cons (fun _ _ _ _ _ _ h => h) <| LastsL.cons (fun _ _ _ _ _ _ h => h) <| LastsL.cons (fun _ _ _ _ _ _ h => h) <| LastsL.cons (fun _ _ _ _ _ _ h => h) <| LastsL.cons (fun _ _ _ _ _ _ h => h) <| LastsL.cons (fun _ _ _ _ _ _ h => h) <| LastsL.cons (fun _ _ _ _ _ _ h => h) <| LastsL.cons (fun _ _ _ _ _ _ h => h) <| LastsL.cons (fun _ _ _ _ _ _ h => h) <| LastsL.cons (fun _ _ _ _ _ _ h => h) <| LastsL.cons (fun _ _ _ _ _ _ h => h) <| LastsL.cons (fun _ _ _ _ _ _ h => h) <| LastsL.cons (fun _ _ _ _ _ _ h => h) <| LastsL.cons (fun _ _ _ _ _ hE h => by obtain ⟨ad18, h, hl18⟩ := h; exact ⟨_, h, hl18.ext hE⟩) <| LastsL.cons (fun _ _ _ _ _ _ h => h) <| LastsL.nil
        · refine StepsB.cons ?_ <| StepsB.cons ?_ <| StepsB.cons ?_ <| StepsB.cons ?_ <| StepsB.cons ?_ <| StepsB.cons ?_ <| StepsB.cons ?_ <| StepsB.cons ?_ <| StepsB.cons ?_ <| StepsB.cons ?_ <| StepsB.cons ?_ <| StepsB.cons ?_ <| StepsB.cons ?_ <| StepsB.cons ?_ <| StepsB.cons ?_ <| StepsB.cons ?_ <| StepsB.nil
          · intro ρ w a hw hG hf hd K hK
            obtain ⟨o1, o2, o3, o4, o5⟩ := hG
            exact dv_ hK hw (wn rfl) (r_move hf rfl) rfl
          · intro ρ w a hw hG hf hd K hK
            obtain ⟨o1, o2, o3, o4, o5⟩ := hG
            exact dv_ hK hw (wn rfl) (r_fa fa39_4 hf rfl) rfl
          · intro ρ w a hw hG hf hd K hK
            obtain ⟨o1, o2, o3, o4, o5⟩ := hG
            obtain ⟨_, hf, rfl⟩ := got (hd 1 (by kernel_rfl)) hf
            exact dv_ hK hw (wn rfl) (r_load_cell ty37 hf rfl (o5.cl.at_ 4 _ rfl)) rfl
          · intro ρ w a hw hG hf hd K hK
            obtain ⟨o1, o2, o3, o4, o5⟩ := hG
            obtain ⟨_, hf, rfl⟩ := got (hd 2 (by kernel_rfl)) hf
            exact dv_ hK hw (wn rfl) (r_len Try.underlying37 o4.ro hf rfl) rfl
          · intro ρ w a hw hG hf hd K hK
            obtain ⟨o1, o2, o3, o4, o5⟩ := hG
            obtain ⟨_, hf, rfl⟩ := got (hd 0 (by kernel_rfl)) hf
            obtain ⟨_, hf, rfl⟩ := got (hd 3 (by kernel_rfl)) hf
            exact dv_ hK hw (wn rfl) (r_lss hf rfl rfl) rfl
          · intro ρ w a hw hG hf hd K hK
            obtain ⟨o1, o2, o3, o4, o5⟩ := hG
            obtain ⟨_, hf, rfl⟩ := got (hd 4 (by kernel_rfl)) hf
            exact dv_ hK hw (wn rfl) (r_move hf rfl) rfl
          · intro ρ w a hw hG hf hd K hK
            obtain ⟨o1, o2, o3, o4, o5⟩ := hG
            obtain ⟨_, hf, rfl⟩ := got (hd 5 (by kernel_rfl)) hf
            exact dv_ hK hw (wg (b := true) hf rfl rfl rfl hb14) (r_fa fa39_4 hf rfl) rfl
          · intro ρ w a hw hG hf hd K hK
            obtain ⟨o1, o2, o3, o4, o5⟩ := hG
            obtain ⟨_, hf, rfl⟩ := got (hd 5 (by kernel_rfl)) hf
            obtain ⟨_, hf, rfl⟩ := got (hd 6 (by kernel_rfl)) hf
            exact dv_ hK hw (wg (b := true) hf rfl rfl rfl hb14) (r_load_cell ty37 hf rfl (o1.cl.at_ 4 _ rfl)) rfl
          · intro ρ w a hw hG hf hd K hK
            obtain ⟨o1, o2, o3, o4, o5⟩ := hG
            obtain ⟨_, hf, rfl⟩ := got (hd 5 (by kernel_rfl)) hf
            exact dv_ hK hw (wg (b := true) hf rfl rfl rfl hb14) (r_move hf rfl) rfl
          · intro ρ w a hw hG hf hd K hK
            obtain ⟨o1, o2, o3, o4, o5⟩ := hG
            obtain ⟨_, hf, rfl⟩ := got (hd 5 (by kernel_rfl)) hf
            obtain ⟨_, hf, rfl⟩ := got (hd 7 (by kernel_rfl)) hf
            obtain ⟨_, hf, rfl⟩ := got (hd 8 (by kernel_rfl)) hf
            exact dv_ hK hw (wg (b := true) hf rfl rfl rfl hb14) (r_idx Try.underlying37 sz82 hf rfl ⟨_, he16⟩ rfl hc15.1 hc15.2) rfl
          · intro ρ w a hw hG hf hd K hK
            obtain ⟨o1, o2, o3, o4, o5⟩ := hG
            obtain ⟨_, hf, rfl⟩ := got (hd 5 (by kernel_rfl)) hf
            obtain ⟨_, hf, rfl⟩ := got (hd 9 (by kernel_rfl)) hf
            exact dv_ hK hw (wg (b := true) hf rfl rfl rfl hb14) (r_load_agg ty82 hf rfl (hl16.below hw.below) (cProd.len _)) rfl
          · intro ρ w a hw hG hf hd K hK
            obtain ⟨o1, o2, o3, o4, o5⟩ := hG
            obtain ⟨_, hf, rfl⟩ := got (hd 5 (by kernel_rfl)) hf
            exact dv_ hK hw (wg (b := true) hf rfl rfl rfl hb14) (r_fa fa39_4 hf rfl) rfl
          · intro ρ w a hw hG hf hd K hK
            obtain ⟨o1, o2, o3, o4, o5⟩ := hG
            obtain ⟨_, hf, rfl⟩ := got (hd 5 (by kernel_rfl)) hf
            obtain ⟨_, hf, rfl⟩ := got (hd 11 (by kernel_rfl)) hf
            exact dv_ hK hw (wg (b := true) hf rfl rfl rfl hb14) (r_load_cell ty37 hf rfl (o5.cl.at_ 4 _ rfl)) rfl
          · intro ρ w a hw hG hf hd K hK
            obtain ⟨o1, o2, o3, o4, o5⟩ := hG
            obtain ⟨_, hf, rfl⟩ := got (hd 5 (by kernel_rfl)) hf
            exact dv_ hK hw (wg (b := true) hf rfl rfl rfl hb14) (r_move hf rfl) rfl
          · intro ρ w a hw hG hf hd K hK
            obtain ⟨o1, o2, o3, o4, o5⟩ := hG
            obtain ⟨_, hf, rfl⟩ := got (hd 5 (by kernel_rfl)) hf
            obtain ⟨_, hf, rfl⟩ := got (hd 12 (by kernel_rfl)) hf
            obtain ⟨_, hf, rfl⟩ := got (hd 13 (by kernel_rfl)) hf
            obtain ⟨ad18, hl18⟩ := Ow.ce (d := cProd) o4 zProd hc17.1 hc17.2
            exact dv_ hK hw (wg (b := true) hf rfl rfl rfl hb14) (r_idx Try.underlying37 sz82 hf rfl hl18.at_ rfl hc17.1 hc17.2) (ex_ <| an_ rfl <| hl18)
          · intro ρ w a hw hG hf hd K hK
            obtain ⟨o1, o2, o3, o4, o5⟩ := hG
            obtain ⟨_, hf, rfl⟩ := got (hd 5 (by kernel_rfl)) hf
            obtain ⟨_, hf, ⟨ad18, rfl, hl18⟩⟩ := got (hd 14 (by kernel_rfl)) hf
            exact dv_ hK hw (wg (b := true) hf rfl rfl rfl hb14) (r_load_agg ty82 hf rfl hl18.co.cl (cProd.len _)) rfl
        intro ρ w a hw hG hf hd
        obtain ⟨o1, o2, o3, o4, o5⟩ := hG
        obtain ⟨_, hf, rfl⟩ := got (hd 5 (by decide)) hf
        obtain ⟨_, hf, rfl⟩ := got (hd 10 (by decide)) hf
        obtain ⟨_, hf, rfl⟩ := got (hd 15 (by decide)) hf
        obtain ⟨x19, hx20, hF⟩ := of_bind hF
        refine st_gfn (b := true) 8 hw hf rfl rfl rfl hb14 rfl (by decide) (r_fn en145 hf rfl) (spec_l01Less_ok  hx20) fun a v w ρ hf hw hE hN hΦ => ?_
        obtain rfl := hΦ
        replace o1 := o1.ext hE
        replace o2 := o2.ext hE
        replace o3 := o3.ext hE
        replace o4 := o4.ext hE
        replace o5 := o5.ext hE
        refine st_g (b := true) hf rfl rfl rfl hb14 rfl (by decide) (r_not hf rfl) fun a hf => ?_
        refine s_ hf (r_pick (b := true) hf rfl hb14 rfl) fun a hf => ?_
        refine c_nil ⟨rfl, ?_⟩
        obtain rfl := Option.some.inj hF
        exact ⟨_, hw, hf.sub ⟨rfl, rfl, rfl, rfl, rfl, rfl, trivial⟩, o1, o2, o3, o4, o5⟩
      rintro a w ⟨ρ, hw, hf, o1, o2, o3, o4, o5⟩
      have hF := hG12
      refine n_then ?_
      rcases of_ite hF with ⟨hb21, hF⟩ | ⟨hb21, hF⟩
      rotate_left
      · refine c_iff hf rfl hb21 <| c_exit <| x_then ?_
        obtain rfl := Option.some.inj hF
        exact Rnd.stops ⟨_, hw, hf.sub ⟨rfl, rfl, rfl, rfl, rfl, trivial⟩, o1, o2, o3, o4, o5⟩
      refine c_ift hf rfl hb21 <| c_skip <| n_then <| c_block <| c_region ?_
      refine s_ hf (r_move hf rfl) fun a hf => ?_
      refine s_ hf (r_add hf rfl rfl) fun a hf => ?_
      refine s_ hf (r_assign hf rfl) fun a hf => ?_
      refine c_nil <| n_block ?_
      obtain rfl := Option.some.inj hF
      exact Rnd.goes ⟨_, hw, hf.sub ⟨rfl, rfl, rfl, rfl, rfl, trivial⟩, o1, o2, o3, o4, o5⟩
    rintro s11 a w hs ⟨ρ, hw, hf, o1, o2, o3, o4, o5⟩
    subst hs
    have hF := hG10
    dsimp only at hF
    refine x_block <| n_then <| c_seq ?_
    obtain ⟨hc22, hF⟩ := of_guard hF
    obtain ⟨ad23, c23, he23, hl23⟩ := Ro.el cProd h0 zProd hc22.1 hc22.2
    obtain ⟨hc24, hF⟩ := of_guard hF
    replace hf : Fr 58 a [(1, .pointer (some ((⟨g1, 0, none⟩ : Addr).add 0))), (2, .pointer (some ((⟨g2, 0, none⟩ : Addr).add 0))), (3, .pointer (some ((⟨g5, 0, none⟩ : Addr).add 0))), (4, vI s6), (5, vI s11)] := hf.sub ⟨rfl, rfl, rfl, rfl, rfl, trivial⟩
    refine c_drawL (h := 10) mixed (by kernel_rfl) (by kernel_rfl) (fun ρ w => Va ρ w 1 g1 39 ([vI a0.p, vI a0.n, vI a0.m, vI a0.k, va0]) ∧ Va ρ w 2 g2 39 ([vI 0, vI 0, vI 0, vI 0, (.slice none 0 0)]) ∧ O82 ρ w w0 3 (.slice none 0 0) ([] : List Prod) ∧ O82 ρ w w0 4 vv8 s7 ∧ Va ρ w 5 g5 39 ([vI x1.p, vI x1.n, vI x1.m, vI x1.k, vv8])) ?_ [fun ρ w v => .pointer (some ((⟨g1, 0, none⟩ : Addr).add (0 + 4))) = v, fun ρ w v => va0 = v, fun ρ w v => vI s6 = v, fun ρ w v => .pointer (some (ad23.add (s6.toNat * 27))) = v, fun ρ w v => .agg (cProd.enc (gl zProd a0.ps s6)).toArray = v, fun ρ w v => ∃ v9, v9 = v ∧ O82 ρ w w0 9 v9 ([gl zProd a0.ps s6]), fun ρ w v => .pointer (some ((⟨g5, 0, none⟩ : Addr).add (0 + 4))) = v, fun ρ w v => vv8 = v, fun ρ w v => vI s11 = v, fun ρ w v => (cutV vv8 s11.toNat (s7.length : Int).toNat 27) = v ∧ Ro (kf cProd) w (cutV vv8 s11.toNat (s7.length : Int).toNat 27) ((s7.take (s7.length : Int).toNat).drop s11.toNat)] ?_ hw ⟨o1, o2, o3, o4, o5⟩ hf ?_ ?_
    · intro ρ w ρ' w' hE hG
      obtain ⟨o1, o2, o3, o4, o5⟩ := hG
      exact ⟨o1.ext hE, o2.ext hE, o3.ext hE, o4.ext hE, o5.ext hE⟩
    · exact LastsL.cons (fun _ _ _ _ _ _ h => h) <| LastsL.cons (fun _ _ _ _ _ _ h => h) <| LastsL.cons (fun _ _ _ _ _ _ h => h) <| LastsL.cons (fun _ _ _ _ _ _ h => h) <| LastsL.cons (fun _ _ _ _ _ _ h => h) <| LastsL.cons (fun _ _ _ _ _ hE h => by obtain ⟨v9, h, o9⟩ := h; exact ⟨_, h, o9.ext hE⟩) <| LastsL.cons (fun _ _ _ _ _ _ h => h) <| LastsL.cons (fun _ _ _ _ _ _ h => h) <| LastsL.cons (fun _ _ _ _ _ _ h => h) <| LastsL.cons (fun _ _ _ _ _ hE h => by obtain ⟨h, o10⟩ := h; exact ⟨h, o10.ext hE⟩) <| LastsL.nil
    · refine StepsB.cons ?_ <| StepsB.cons ?_ <| StepsB.cons ?_ <| StepsB.cons ?_ <| StepsB.cons ?_ <| StepsB.cons ?_ <| StepsB.cons ?_ <| StepsB.cons ?_ <| StepsB.cons ?_ <| StepsB.cons ?_ <| StepsB.nil
      · intro ρ w a hw hG hf hd K hK
        obtain ⟨o1, o2, o3, o4, o5⟩ := hG
        exact dv_ hK hw (wn rfl) (r_fa fa39_4 hf rfl) rfl
      · intro ρ w a hw hG hf hd K hK
        obtain ⟨o1, o2, o3, o4, o5⟩ := hG
        obtain ⟨_, hf, rfl⟩ := got (hd 0 (by kernel_rfl)) hf
        exact dv_ hK hw (wn rfl) (r_load_cell ty37 hf rfl (o1.cl.at_ 4 _ rfl)) rfl
      · intro ρ w a hw hG hf hd K hK
        obtain ⟨o1, o2, o3, o4, o5⟩ := hG
        exact dv_ hK hw (wn rfl) (r_move hf rfl) rfl
      · intro ρ w a hw hG hf hd K hK
        obtain ⟨o1, o2, o3, o4, o5⟩ := hG
        obtain ⟨_, hf, rfl⟩ := got (hd 1 (by kernel_rfl)) hf
        obtain ⟨_, hf, rfl⟩ := got (hd 2 (by kernel_rfl)) hf
        exact dv_ hK hw (wn rfl) (r_idx Try.underlying37 sz82 hf rfl ⟨_, he23⟩ rfl hc22.1 hc22.2) rfl
      · intro ρ w a hw hG hf hd K hK
        obtain ⟨o1, o2, o3, o4, o5⟩ := hG
        obtain ⟨_, hf, rfl⟩ := got (hd 3 (by kernel_rfl)) hf
        exact dv_ hK hw (wn rfl) (r_load_agg ty82 hf rfl (hl23.below hw.below) (cProd.len _)) rfl
      · intro ρ w a hw hG hf hd K hK
        obtain ⟨o1, o2, o3, o4, o5⟩ := hG
        obtain ⟨_, hf, rfl⟩ := got (hd 4 (by kernel_rfl)) hf
        refine dx_ hK hw (wn rfl) (r_lit (d := cProd) (xs := ([gl zProd a0.ps s6] : List Prod)) (vs := [.agg (cProd.enc (gl zProd a0.ps s6)).toArray]) 9 Try.underlying37 el82 (Nat.le_of_ble_eq_true rfl) (Nat.le_of_ble_eq_true rfl) hw hf rfl rfl rfl) fun v9 w' hΦ => ?_
        obtain ⟨ρ, hw, hE, o9⟩ := hΦ
        exact ⟨_, hw, hE, ex_ <| an_ rfl <| o9⟩
      · intro ρ w a hw hG hf hd K hK
        obtain ⟨o1, o2, o3, o4, o5⟩ := hG
        exact dv_ hK hw (wn rfl) (r_fa fa39_4 hf rfl) rfl
      · intro ρ w a hw hG hf hd K hK
        obtain ⟨o1, o2, o3, o4, o5⟩ := hG
        obtain ⟨_, hf, rfl⟩ := got (hd 6 (by kernel_rfl)) hf
        exact dv_ hK hw (wn rfl) (r_load_cell ty37 hf rfl (o5.cl.at_ 4 _ rfl)) rfl
      · intro ρ w a hw hG hf hd K hK
        obtain ⟨o1, o2, o3, o4, o5⟩ := hG
        exact dv_ hK hw (wn rfl) (r_move hf rfl) rfl
      · intro ρ w a hw hG hf hd K hK
        obtain ⟨o1, o2, o3, o4, o5⟩ := hG
        obtain ⟨_, hf, rfl⟩ := got (hd 7 (by kernel_rfl)) hf
        obtain ⟨_, hf, rfl⟩ := got (hd 8 (by kernel_rfl)) hf
        have o10 : Ro (kf cProd) w (cutV vv8 s11.toNat (s7.length : Int).toNat 27) ((s7.take (s7.length : Int).toNat).drop s11.toNat) := ro_cutV o4.ro hc24.1 hc24.2 (Int.le_refl _)
        exact dv_ hK hw (wn rfl) (r_cut_v (lo := s11) (hi := (s7.length : Int)) Try.underlying37 sz82 rfl o4.ro hf rfl (.inr ⟨_, rfl, rfl⟩) (.inl ⟨rfl, rfl⟩) hc24.1 hc24.2 (Int.le_refl _)) (an_ rfl <| o10)
    intro ρ w a hw hG hf hd
    obtain ⟨o1, o2, o3, o4, o5⟩ := hG
    obtain ⟨_, hf, ⟨v9, rfl, o9⟩⟩ := got (hd 5 (by decide)) hf
    obtain ⟨_, hf, ⟨rfl, o10⟩⟩ := got (hd 9 (by decide)) hf
    obtain ⟨hc25, hF⟩ := of_guard hF
    refine sx_ hf (r_append Try.underlying37 el82 hw (by decide) o9 o10 hc25 hf rfl rfl) fun a va26 w hf hΦ => ?_
    obtain ⟨ρ, hw, hA, o9⟩ := hΦ
    replace o1 := o1.adv hA (by decide)
    replace o2 := o2.adv hA (by decide)
    replace o3 := o3.adv hA (by decide)
    replace o4 := o4.adv hA (by decide)
    replace o5 := o5.adv hA (by decide)
    refine s_ hf (r_assign hf rfl) fun a hf => ?_
    refine c_nt <| c_region ?_
    refine sx_ hf (r_lit (d := cProd) (xs := ([] : List Prod)) (vs := []) 11 Try.underlying37 el82 (Nat.le_of_ble_eq_true rfl) (Nat.le_of_ble_eq_true rfl) hw hf rfl rfl rfl) fun a v11 w hf hΦ => ?_
    obtain ⟨ρ, hw, hE, o11⟩ := hΦ
    replace o1 := o1.ext hE
    replace o2 := o2.ext hE
    replace o3 := o3.ext hE
    replace o4 := o4.ext hE
    replace o5 := o5.ext hE
    replace o9 := o9.ext hE
    refine s_ hf (r_fa fa39_4 hf rfl) fun a hf => ?_
    refine s_ hf (r_load_cell ty37 hf rfl (o5.cl.at_ 4 _ rfl)) fun a hf => ?_
    refine s_ hf (r_move hf rfl) fun a hf => ?_
    obtain ⟨hc27, hF⟩ := of_guard hF
    have o12 : Ro (kf cProd) w (cutV vv8 (0 : Int).toNat s11.toNat 27) ((s7.take s11.toNat).drop (0 : Int).toNat) := ro_cutV o4.ro (Int.le_refl 0) hc27.1 hc27.2
    refine s_ hf (r_cut_v (lo := 0) (hi := s11) Try.underlying37 sz82 rfl o4.ro hf rfl (.inl ⟨rfl, rfl⟩) (.inr ⟨_, rfl, rfl⟩) (Int.le_refl 0) hc27.1 hc27.2) fun a hf => ?_
    obtain ⟨hc28, hF⟩ := of_guard hF
    refine sx_ hf (r_append Try.underlying37 el82 hw (by decide) o11 o12 hc28 hf rfl rfl) fun a va29 w hf hΦ => ?_
    obtain ⟨ρ, hw, hA, o11⟩ := hΦ
    replace o1 := o1.adv hA (by decide)
    replace o2 := o2.adv hA (by decide)
    replace o3 := o3.adv hA (by decide)
    replace o4 := o4.adv hA (by decide)
    replace o5 := o5.adv hA (by decide)
    replace o9 := o9.adv hA (by decide)
    refine s_ hf (r_move hf rfl) fun a hf => ?_
    obtain ⟨hc30, hF⟩ := of_guard hF
    refine sx_ hf (r_append Try.underlying37 el82 hw (by decide) o11 o9.ro hc30 hf rfl rfl) fun a va31 w hf hΦ => ?_
    obtain ⟨ρ, hw, hA, o11⟩ := hΦ
    replace o1 := o1.adv hA (by decide)
    replace o2 := o2.adv hA (by decide)
    replace o3 := o3.adv hA (by decide)
    replace o4 := o4.adv hA (by decide)
    replace o5 := o5.adv hA (by decide)
    replace o9 := o9.adv hA (by decide)
    refine s_ hf (r_fa fa39_4 hf rfl) fun a hf => ?_
    refine sk_ hf (r_store_c hw o5 (by decide) ty37 (Nat.le_of_ble_eq_true rfl) hf rfl rfl o11.ro.cells1 o11.ro.one) fun a w hf hΦ => ?_
    obtain ⟨hw, hA, o5⟩ := hΦ
    replace o1 := o1.adv hA (by decide)
    replace o2 := o2.adv hA (by decide)
    replace o3 := o3.adv hA (by decide)
    replace o4 := o4.adv hA (by decide)
    replace o9 := o9.adv hA (by decide)
    replace o11 := o11.adv hA (by decide)
    replace o5 : Va ρ w 5 g5 39 ([vI x1.p, vI x1.n, vI x1.m, vI x1.k, va31]) := o5
    refine c_nil <| n_block <| n_then <| c_region ?_
    refine s_ hf (r_move hf rfl) fun a hf => ?_
    refine s_ hf (r_add hf rfl rfl) fun a hf => ?_
    refine s_ hf (r_assign hf rfl) fun a hf => ?_
    refine c_nil ?_
    obtain rfl := Option.some.inj hF
    replace o1 := o1.tr (Tr.relab (j := 11) (b := 4) (by decide))
    replace o2 := o2.tr (Tr.relab (j := 11) (b := 4) (by decide))
    replace o3 := o3.tr (Tr.relab (j := 11) (b := 4) (by decide))
    replace o5 := o5.tr (Tr.relab (j := 11) (b := 4) (by decide))
    replace o11 := o11.relab 4
    replace hw := hw.relab (j := 11) (by decide) 4
    exact Rnd.goes ⟨_, _, hw, hf.sub ⟨rfl, rfl, rfl, rfl, trivial⟩, o1, o2, o3, o11, o5⟩
  rintro ⟨s6, s7⟩ a w hs ⟨ρ, vv8, hw, hf, o2, o3, o4, o5⟩
  subst hs
  have hF := hG5
  dsimp only at hF
  refine x_block <| n_then <| c_seq <| c_region ?_
  refine s_ hf (r_load_agg ty39 hf rfl o5.cl rfl) fun a hf => ?_
  refine sk_ hf (r_store_w (cs' := [vI x1.p, vI x1.n, vI x1.m, vI x1.k, vv8]) hw o2 (by decide) ty39 rfl rfl (one_sch o4.ro.one) hf rfl rfl rfl) fun a w hf hΦ => ?_
  obtain ⟨hw, hA, o2⟩ := hΦ
  replace o3 := o3.adv hA (by decide)
  replace o4 := o4.adv hA (by decide)
  replace o5 := o5.adv hA (by decide)
  refine c_nt <| c_retc ?_
  obtain rfl := Option.some.inj hF
  refine c_ret hf (res_cell Try.results100 ty39 hf rfl o2.cl rfl) ?_
  exact ⟨_, rfl, hw.below, ⟨_, rfl, o4.out⟩⟩
/-! f180 -/
noncomputable def slices_Clone_180 (a0 : List Prod) : Option (List Prod) :=
  if (([] : List Prod).length + a0.length) * 27 ≤ 140737488355328 then (some ((([] : List Prod) ++ a0))) else none
theorem slices_Clone_180_ok {w0 : World} {a0 : List Prod} {va0 : Value} (h0 : Ro (kf cProd) w0 va0 a0) {r : List Prod} (hF : slices_Clone_180 a0 = some r) :
    Calls Try.prog 180 [va0].toArray w0 fun e w => ∃ v, e = .returned v ∧ Below w0.heap.size w0 w ∧ ∃ u0, u0 = v ∧ Fresh (kf cProd) 82 w0 w u0 r := by
  refine calls_of (k := 8) Try.func180 rfl rfl (Nat.le_of_ble_eq_true rfl) fun a hf => ?_
  replace hf : Fr 8 a [(0, va0)] := hf
  refine c_start fun w ρ hw => ?_
  unfold slices_Clone_180 at hF
  refine c_seq <| c_region ?_
  have o1 : Ow (kf cProd) 82 ρ w w0.heap.size 1 (.slice none 0 0) [] := Ow.nil _ _ _ _ _ _
  refine s_ hf (r_assign hf rfl) fun a hf => ?_
  refine c_nt <| c_seq <| c_seq <| c_region ?_
  refine s_ hf (r_move hf rfl) fun a hf => ?_
  rcases Ro.nil_or (h0.now hw) with hn1 | hn1
  · replace hF := (show (some (([] : List Prod))) = (if (([] : List Prod).length + a0.length) * 27 ≤ 140737488355328 then (some ((([] : List Prod) ++ a0))) else none) from by simp [hn1.2]).trans hF
    refine s_ hf (r_isnil hf rfl hn1.1 rfl Try.underlying37) fun a hf => ?_
    refine c_nt <| c_true hf rfl <| c_seq <| c_region ?_
    have o2 : Ow (kf cProd) 82 ρ w w0.heap.size 2 (.slice none 0 0) [] := Ow.nil _ _ _ _ _ _
    refine s_ hf (r_assign hf rfl) fun a hf => ?_
    refine c_nt <| c_retc ?_
    obtain rfl := Option.some.inj hF
    refine r_then <| c_ret hf (res_tmp Try.results180 hf rfl) ?_
    exact ⟨_, rfl, hw.below, ⟨_, rfl, o2.out⟩⟩
  · refine s_ hf (r_nonil hf rfl hn1 rfl Try.underlying37) fun a hf => ?_
    refine c_nt <| c_false hf rfl <| c_skip <| n_then <| c_seq <| c_region ?_
    refine sx_ hf (r_lit (d := cProd) (xs := ([] : List Prod)) (vs := []) 3 Try.underlying37 el82 (Nat.le_of_ble_eq_true rfl) (Nat.le_of_ble_eq_true rfl) hw hf rfl rfl rfl) fun a v3 w hf hΦ => ?_
    obtain ⟨ρ, hw, hE, o3⟩ := hΦ
    replace o1 := o1.ext hE
    refine s_ hf (r_move hf rfl) fun a hf => ?_
    obtain ⟨hc2, hF⟩ := of_guard hF
    refine sx_ hf (r_append Try.underlying37 el82 hw (by decide) o3 (h0.now hw) hc2 hf rfl rfl) fun a va3 w hf hΦ => ?_
    obtain ⟨ρ, hw, hA, o3⟩ := hΦ
    replace o1 := o1.adv hA (by decide)
    refine s_ hf (r_assign hf rfl) fun a hf => ?_
    refine c_nt <| c_retc ?_
    obtain rfl := Option.some.inj hF
    refine c_ret hf (res_tmp Try.results180 hf rfl) ?_
    exact ⟨_, rfl, hw.below, ⟨_, rfl, o3.out⟩⟩
/-! f181s182 -/
def sort181_ren : Go.Shelf.Ren := ⟨fun | 6 => 181 | 15 => 133 | 14 => 193 | 28 => 173 | 29 => 174 | 20 => 198 | 21 => 199 | 22 => 200 | 23 => 201 | 24 => 202 | 25 => 203 | 26 => 204 | 27 => 205 | 46 => 207 | 47 => 189 | 48 => 190 | 49 => 208 | 50 => 209 | 57 => 211 | n => n, fun | 22 => 37 | 24 => 82 | 25 => 173 | 3 => 3 | 39 => 113 | 0 => 0 | 53 => 168 | 55 => 110 | 4 => 4 | 46 => 161 | 45 => 160 | 50 => 165 | 5 => 5 | 9 => 9 | 66 => 177 | 70 => 181 | 76 => 187 | 77 => 188 | n => n, fun n => n⟩
theorem sort181 : SlLaysF0.n6 Try.prog sort181_ren where
  mixed := by kernel_rfl
  f6 := ⟨"slices.SortFunc[[]loop.example/g01262/impl.Product,loop.example/g01262/impl.Product]", by decide, Try.func181.trans (congrArg some (by kernel_rfl))⟩
  f14 := ⟨"slices.pdqsortCmpFunc[loop.example/g01262/impl.Product]", by decide, Try.func193.trans (congrArg some (by kernel_rfl))⟩
  f15 := Try.func133.trans (congrArg some (by kernel_rfl))
  f20 := ⟨"slices.insertionSortCmpFunc[loop.example/g01262/impl.Product]", by decide, Try.func198.trans (congrArg some (by kernel_rfl))⟩
  f21 := ⟨"slices.heapSortCmpFunc[loop.example/g01262/impl.Product]", by decide, Try.func199.trans (congrArg some (by kernel_rfl))⟩
  f22 := ⟨"slices.breakPatternsCmpFunc[loop.example/g01262/impl.Product]", by decide, Try.func200.trans (congrArg some (by kernel_rfl))⟩
  f23 := ⟨"slices.choosePivotCmpFunc[loop.example/g01262/impl.Product]", by decide, Try.func201.trans (congrArg some (by kernel_rfl))⟩
  f24 := ⟨"slices.reverseRangeCmpFunc[loop.example/g01262/impl.Product]", by decide, Try.func202.trans (congrArg some (by kernel_rfl))⟩
  f25 := ⟨"slices.partialInsertionSortCmpFunc[loop.example/g01262/impl.Product]", by decide, Try.func203.trans (congrArg some (by kernel_rfl))⟩
  f26 := ⟨"slices.partitionEqualCmpFunc[loop.example/g01262/impl.Product]", by decide, Try.func204.trans (congrArg some (by kernel_rfl))⟩
  f27 := ⟨"slices.partitionCmpFunc[loop.example/g01262/impl.Product]", by decide, Try.func205.trans (congrArg some (by kernel_rfl))⟩
  f28 := Try.func173.trans (congrArg some (by kernel_rfl))
  f29 := Try.func174.trans (congrArg some (by kernel_rfl))
  f46 := ⟨"slices.siftDownCmpFunc[loop.example/g01262/impl.Product]", by decide, Try.func207.trans (congrArg some (by kernel_rfl))⟩
  f47 := Try.func189.trans (congrArg some (by kernel_rfl))
  f48 := Try.func190.trans (congrArg some (by kernel_rfl))
  f49 := ⟨"slices.medianAdjacentCmpFunc[loop.example/g01262/impl.Product]", by decide, Try.func208.trans (congrArg some (by kernel_rfl))⟩
  f50 := ⟨"slices.medianCmpFunc[loop.example/g01262/impl.Product]", by decide, Try.func209.trans (congrArg some (by kernel_rfl))⟩
  f57 := ⟨"slices.order2CmpFunc[loop.example/g01262/impl.Product]", by decide, Try.func211.trans (congrArg some (by kernel_rfl))⟩
  t0 := Try.underlying0
  a0 := Try.isAgg0
  z0 := Try.sizeOf0
  v0 := Try.zeroValue0
  t3 := Try.underlying3
  a3 := Try.isAgg3
  z3 := Try.sizeOf3
  v3 := Try.zeroValue3
  t4 := Try.underlying4
  a4 := Try.isAgg4
  z4 := Try.sizeOf4
  v4 := Try.zeroValue4
  t5 := Try.underlying5
  a5 := Try.isAgg5
  z5 := Try.sizeOf5
  v5 := Try.zeroValue5
  t9 := Try.underlying9
  a9 := Try.isAgg9
  z9 := Try.sizeOf9
  v9 := Try.zeroValue9
  t22 := Try.underlying37
  a22 := Try.isAgg37
  z22 := Try.sizeOf37
  v22 := Try.zeroValue37
  t25 := Try.underlying173
  a25 := Try.isAgg173
  z25 := Try.sizeOf173
  v25 := Try.zeroValue173
  t39 := Try.underlying113
  a39 := Try.isAgg113
  z39 := Try.sizeOf113
  v39 := Try.zeroValue113
  t45 := Try.underlying160
  a45 := Try.isAgg160
  z45 := Try.sizeOf160
  v45 := Try.zeroValue160
  t46 := Try.underlying161
  a46 := Try.isAgg161
  z46 := Try.sizeOf161
  v46 := Try.zeroValue161
  t50 := Try.underlying165
  a50 := Try.isAgg165
  z50 := Try.sizeOf165
  v50 := Try.zeroValue165
  t53 := Try.underlying168
  a53 := Try.isAgg168
  z53 := Try.sizeOf168
  v53 := Try.zeroValue168
  t55 := Try.underlying110
  a55 := Try.isAgg110
  z55 := Try.sizeOf110
  v55 := Try.zeroValue110
  t66 := Try.underlying177
  a66 := Try.isAgg177
  z66 := Try.sizeOf177
  v66 := Try.zeroValue177
  t70 := Try.underlying181
  a70 := Try.isAgg181
  z70 := Try.sizeOf181
  v70 := Try.zeroValue181
  t76 := Try.underlying187
  a76 := Try.isAgg187
  z76 := Try.sizeOf187
  v76 := Try.zeroValue187
  t77 := Try.underlying188
  a77 := Try.isAgg188
  z77 := Try.sizeOf188
  v77 := Try.zeroValue188
noncomputable def slices_SortFunc_181_f182 (a0 : List Prod) : Option (List Prod) :=
  sortBy impl_compareProducts a0
theorem slices_SortFunc_181_f182_ok {w0 ws : World} {ρ0 : Nat → Nat} {i : Nat} (hi : i ≠ 0) (hW : Wd w0 ρ0 ws) {a0 : List Prod} {va0 : Value} (h0 : Ow (kf cProd) 82 ρ0 ws w0.heap.size i va0 a0) {r : List Prod} (hF : slices_SortFunc_181_f182 a0 = some r) :
    Calls Try.prog 181 [va0, .func (.func 182) #[] #[]].toArray ws fun e w => ∃ v, e = .returned v ∧ ∃ ρ', Wd w0 ρ' w ∧ Adv i ρ0 ws ρ' w ∧ .tuple #[] = v ∧ Ow (kf cProd) 82 ρ' w w0.heap.size i va0 r :=
  sort_ok sort181 rfl Try.isAgg82 Try.sizeOf82 (enters_of Try.func182 (by kernel_rfl) rfl) (fun x y r W h => (impl_compareProducts_ok h).mono fun e w ⟨v, h1, h2, h3⟩ => ⟨v, h1, h2, h3.symm⟩) hi hW h0 hF (by decide)
/-! f146 -/
noncomputable def impl_sorted (a0 : Sch) : Option Sch :=
  (slices_Clone_180 a0.ps).bind fun x1 => (slices_SortFunc_181_f182 x1).bind fun x5 => (impl_with a0 x5).bind fun x7 => some (x7)
theorem impl_sorted_ok {w0 : World} {a0 : Sch} {va0 : Value} (h0 : Ro (kf cProd) w0 va0 a0.ps) {r : Sch} (hF : impl_sorted a0 = some r) :
    Calls Try.prog 146 [.agg ([vI a0.p, vI a0.n, vI a0.m, vI a0.k, va0]).toArray].toArray w0 fun e w => ∃ v, e = .returned v ∧ Below w0.heap.size w0 w ∧ ∃ u0, .agg [.int .i64 r.p, .int .i64 r.n, .int .i64 r.m, .int .i64 r.k, u0].toArray = v ∧ Fresh (kf cProd) 82 w0 w u0 r.ps := by
  refine calls_of (k := 12) Try.func146 rfl rfl (Nat.le_of_ble_eq_true rfl) fun a hf => ?_
  replace hf : Fr 12 a [(0, .agg ([vI a0.p, vI a0.n, vI a0.m, vI a0.k, va0]).toArray)] := hf
  refine c_start fun w ρ hw => ?_
  unfold impl_sorted at hF
  refine c_seq <| c_region ?_
  refine sx_ hf (r_box (cs := [vI a0.p, vI a0.n, vI a0.m, vI a0.k, va0]) 1 hw hf rfl rfl) fun a v w hf hΦ => ?_
  obtain ⟨g1, ρ, rfl, hw, hE, o1⟩ := hΦ
  have o3 : Ow (kf cProd) 82 ρ w w0.heap.size 3 (.slice none 0 0) [] := Ow.nil _ _ _ _ _ _
  refine sx_ hf (r_alloc (cs := [vI 0, vI 0, vI 0, vI 0, (.slice none 0 0)]) 2 ze39 rfl hw) fun a v w hf hΦ => ?_
  obtain ⟨g2, ρ, rfl, hw, hE, o2⟩ := hΦ
  replace o1 := o1.ext hE
  replace o3 := o3.ext hE
  refine c_nt <| c_seq <| c_region ?_
  refine s_ hf (r_fa fa39_4 hf rfl) fun a hf => ?_
  refine s_ hf (r_load_cell ty37 hf rfl (o1.cl.at_ 4 _ rfl)) fun a hf => ?_
  obtain ⟨x1, hx2, hF⟩ := of_bind hF
  refine st_fn 4 hw hf rfl rfl (by decide) (r_fn en180 hf rfl) (slices_Clone_180_ok (h0.now hw) hx2) fun a v w ρ hf hw hE hN hΦ => ?_
  obtain ⟨u3, rfl, hr4⟩ := hΦ
  replace o1 := o1.ext hE
  replace o3 := o3.ext hE
  replace o2 := o2.ext hE
  have o4 := hN hr4
  refine s_ hf (r_assign hf rfl) fun a hf => ?_
  refine c_nt <| c_seq <| c_region ?_
  refine s_ hf (r_move hf rfl) fun a hf => ?_
  obtain ⟨x5, hx6, hF⟩ := of_bind hF
  refine st_mfn hf rfl rfl (by decide) (r_fn en181 hf rfl) (slices_SortFunc_181_f182_ok (by decide) hw o4 hx6) fun a v w ρ hf hw hA hΦ => ?_
  obtain ⟨rfl, o4⟩ := hΦ
  replace o1 := o1.adv hA (by decide)
  replace o3 := o3.adv hA (by decide)
  replace o2 := o2.adv hA (by decide)
  refine c_nt <| c_seq <| c_region ?_
  refine s_ hf (r_load_agg ty39 hf rfl o1.cl rfl) fun a hf => ?_
  refine s_ hf (r_move hf rfl) fun a hf => ?_
  obtain ⟨x7, hx8, hF⟩ := of_bind hF
  refine st_mfn hf rfl rfl (by decide) (r_fn en142 hf rfl) (impl_with_ok (a0 := a0) (by decide) hw h0 o4 hx8) fun a v w ρ hf hw hA hΦ => ?_
  obtain ⟨u9, rfl, o4⟩ := hΦ
  replace o1 := o1.adv hA (by decide)
  replace o3 := o3.adv hA (by decide)
  replace o2 := o2.adv hA (by decide)
  refine sk_ hf (r_store_w (cs' := [vI x7.p, vI x7.n, vI x7.m, vI x7.k, u9]) hw o2 (by decide) ty39 rfl rfl (one_sch o4.ro.one) hf rfl rfl rfl) fun a w hf hΦ => ?_
  obtain ⟨hw, hA, o2⟩ := hΦ
  replace o1 := o1.adv hA (by decide)
  replace o3 := o3.adv hA (by decide)
  replace o4 := o4.adv hA (by decide)
  refine c_nt <| c_retc ?_
  obtain rfl := Option.some.inj hF
  refine c_ret hf (res_cell Try.results146 ty39 hf rfl o2.cl rfl) ?_
  exact ⟨_, rfl, hw.below, ⟨_, rfl, o4.out⟩⟩
/-! f144 -/
noncomputable def spec_l04Same_l2 (a0 : Sch) (a1 : Sch) (s3 : Int) : Option (LR Int Bool) :=
  if (decide (s3 < (a0.ps.length : Int))) = true then (if 0 ≤ s3 ∧ s3 < (a0.ps.length : Int) then (if 0 ≤ s3 ∧ s3 < (a1.ps.length : Int) then (if (decide ((gl zProd a0.ps s3) ≠ (gl zProd a1.ps s3))) = true then (some (.ret false)) else (some (.next (w64 (s3 + 1))))) else none) else none) else (some (.stop s3))
noncomputable def spec_l04Same (a0 : Sch) (a1 : Sch) : Option Bool :=
  if (decide ((a0.ps.length : Int) ≠ (a1.ps.length : Int))) = true then (some (false)) else ((iter (fun s => spec_l04Same_l2 a0 a1 s) 0).bind fun o => match o with | .stop s3 => (some (true)) | .ret r => some r | .next _ => none)
theorem spec_l04Same_ok {w0 : World} {a0 : Sch} {a1 : Sch} {va0 : Value} {va1 : Value} (h0 : Ro (kf cProd) w0 va0 a0.ps) (h1 : Ro (kf cProd) w0 va1 a1.ps) {r : Bool} (hF : spec_l04Same a0 a1 = some r) :
    Calls Try.prog 144 [.agg ([vI a0.p, vI a0.n, vI a0.m, vI a0.k, va0]).toArray, .agg ([vI a1.p, vI a1.n, vI a1.m, vI a1.k, va1]).toArray].toArray w0 fun e w => ∃ v, e = .returned v ∧ Below w0.heap.size w0 w ∧ .bool r = v := by
  refine calls_of (k := 31) Try.func144 rfl rfl (Nat.le_of_ble_eq_true rfl) fun a hf => ?_
  replace hf : Fr 31 a [(0, .agg ([vI a0.p, vI a0.n, vI a0.m, vI a0.k, va0]).toArray), (1, .agg ([vI a1.p, vI a1.n, vI a1.m, vI a1.k, va1]).toArray)] := hf
  refine c_start fun w ρ hw => ?_
  unfold spec_l04Same at hF
  refine c_seq <| c_region ?_
  refine sx_ hf (r_box (cs := [vI a0.p, vI a0.n, vI a0.m, vI a0.k, va0]) 1 hw hf rfl rfl) fun a v w hf hΦ => ?_
  obtain ⟨g1, ρ, rfl, hw, hE, o1⟩ := hΦ
  refine sx_ hf (r_box (cs := [vI a1.p, vI a1.n, vI a1.m, vI a1.k, va1]) 2 hw hf rfl rfl) fun a v w hf hΦ => ?_
  obtain ⟨g2, ρ, rfl, hw, hE, o2⟩ := hΦ
  replace o1 := o1.ext hE
  refine s_ hf (r_assign hf rfl) fun a hf => ?_
  refine c_nt <| c_seq <| c_seq <| c_region ?_
  refine s_ hf (r_fa fa39_4 hf rfl) fun a hf => ?_
  refine s_ hf (r_load_cell ty37 hf rfl (o1.cl.at_ 4 _ rfl)) fun a hf => ?_
  refine s_ hf (r_len Try.underlying37 (h0.now hw) hf rfl) fun a hf => ?_
  refine s_ hf (r_fa fa39_4 hf rfl) fun a hf => ?_
  refine s_ hf (r_load_cell ty37 hf rfl (o2.cl.at_ 4 _ rfl)) fun a hf => ?_
  refine s_ hf (r_len Try.underlying37 (h1.now hw) hf rfl) fun a hf => ?_
  refine s_ hf (r_neq hf rfl rfl) fun a hf => ?_
  refine c_nt ?_
  rcases of_ite hF with ⟨hb1, hF⟩ | ⟨hb1, hF⟩
  · refine c_ift hf rfl hb1 <| c_seq <| c_region ?_
    refine s_ hf (r_assign hf rfl) fun a hf => ?_
    refine c_nt <| c_retc ?_
    obtain rfl := Option.some.inj hF
    refine r_then <| c_ret hf (res_tmp Try.results144 hf rfl) ?_
    exact ⟨_, rfl, hw.below, rfl⟩
  refine c_iff hf rfl hb1 <| c_skip <| n_then <| c_seq <| c_seq <| c_region ?_
  refine s_ hf (r_assign hf rfl) fun a hf => ?_
  refine c_nt ?_
  obtain ⟨ol2, ho2, hG2⟩ := of_bind hF
  clear hF
  refine c_block (c_loop (id := 0) (fun s => spec_l04Same_l2 a0 a1 s) (fun (s3 : Int) a w => ∃ ρ, Wd w0 ρ w ∧ Fr 31 a [(2, .pointer (some ((⟨g1, 0, none⟩ : Addr).add 0))), (3, .pointer (some ((⟨g2, 0, none⟩ : Addr).add 0))), (5, vI s3)] ∧ Va ρ w 1 g1 39 ([vI a0.p, vI a0.n, vI a0.m, vI a0.k, va0]) ∧ Va ρ w 2 g2 39 ([vI a1.p, vI a1.n, vI a1.m, vI a1.k, va1])) (fun (s3 : Int) a w => ∃ ρ, Wd w0 ρ w ∧ Fr 31 a []) ho2 ⟨_, hw, hf.sub ⟨rfl, rfl, rfl, trivial⟩, o1, o2⟩ ?_ ?_)
  · rintro s3 lr a w ⟨ρ, hw, hf, o1, o2⟩ hF
    replace hF : spec_l04Same_l2 a0 a1 s3 = some lr := hF
    unfold spec_l04Same_l2 at hF
    refine c_seq <| c_seq <| c_region ?_
    refine s_ hf (r_move hf rfl) fun a hf => ?_
    refine s_ hf (r_fa fa39_4 hf rfl) fun a hf => ?_
    refine s_ hf (r_load_cell ty37 hf rfl (o1.cl.at_ 4 _ rfl)) fun a hf => ?_
    refine s_ hf (r_len Try.underlying37 (h0.now hw) hf rfl) fun a hf => ?_
    refine s_ hf (r_lss hf rfl rfl) fun a hf => ?_
    refine c_nt ?_
    rcases of_ite hF with ⟨hb4, hF⟩ | ⟨hb4, hF⟩
    rotate_left
    · refine c_iff hf rfl hb4 <| c_exit <| x_then ?_
      obtain rfl := Option.some.inj hF
      exact Rnd.stops ⟨_, hw, hf.sub trivial⟩
    refine c_ift hf rfl hb4 <| c_skip <| n_then <| c_seq <| c_block <| c_seq ?_
    obtain ⟨hc5, hF⟩ := of_guard hF
    obtain ⟨ad6, c6, he6, hl6⟩ := Ro.el cProd h0 zProd hc5.1 hc5.2
    obtain ⟨hc7, hF⟩ := of_guard hF
    obtain ⟨ad8, c8, he8, hl8⟩ := Ro.el cProd h1 zProd hc7.1 hc7.2
    replace hf : Fr 31 a [(2, .pointer (some ((⟨g1, 0, none⟩ : Addr).add 0))), (3, .pointer (some ((⟨g2, 0, none⟩ : Addr).add 0))), (5, vI s3)] := hf.sub ⟨rfl, rfl, rfl, trivial⟩
    refine c_drawL (h := 10) mixed (by kernel_rfl) (by kernel_rfl) (fun ρ w => Va ρ w 1 g1 39 ([vI a0.p, vI a0.n, vI a0.m, vI a0.k, va0]) ∧ Va ρ w 2 g2 39 ([vI a1.p, vI a1.n, vI a1.m, vI a1.k, va1])) ?_ [fun ρ w v => .pointer (some ((⟨g1, 0, none⟩ : Addr).add (0 + 4))) = v, fun ρ w v => va0 = v, fun ρ w v => vI s3 = v, fun ρ w v => .pointer (some (ad6.add (s3.toNat * 27))) = v, fun ρ w v => .agg (cProd.enc (gl zProd a0.ps s3)).toArray = v, fun ρ w v => .pointer (some ((⟨g2, 0, none⟩ : Addr).add (0 + 4))) = v, fun ρ w v => va1 = v, fun ρ w v => vI s3 = v, fun ρ w v => .pointer (some (ad8.add (s3.toNat * 27))) = v, fun ρ w v => .agg (cProd.enc (gl zProd a1.ps s3)).toArray = v] ?_ hw ⟨o1, o2⟩ hf ?_ ?_
    · intro ρ w ρ' w' hE hG
      obtain ⟨o1, o2⟩ := hG
      exact ⟨o1.ext hE, o2.ext hE⟩
    · exact LastsL.cons (fun _ _ _ _ _ _ h => h) <| LastsL.cons (fun _ _ _ _ _ _ h => h) <| LastsL.cons (fun _ _ _ _ _ _ h => h) <| LastsL.cons (fun _ _ _ _ _ _ h => h) <| LastsL.cons (fun _ _ _ _ _ _ h => h) <| LastsL.cons (fun _ _ _ _ _ _ h => h) <| LastsL.cons (fun _ _ _ _ _ _ h => h) <| LastsL.cons (fun _ _ _ _ _ _ h => h) <| LastsL.cons (fun _ _ _ _ _ _ h => h) <| LastsL.cons (fun _ _ _ _ _ _ h => h) <| LastsL.nil
    · refine StepsB.cons ?_ <| StepsB.cons ?_ <| StepsB.cons ?_ <| StepsB.cons ?_ <| StepsB.cons ?_ <| StepsB.cons ?_ <| StepsB.cons ?_ <| StepsB.cons ?_ <| StepsB.cons ?_ <| StepsB.cons ?_ <| StepsB.nil
      · intro ρ w a hw hG hf hd K hK
        obtain ⟨o1, o2⟩ := hG
        exact dv_ hK hw (wn rfl) (r_fa fa39_4 hf rfl) rfl
      · intro ρ w a hw hG hf hd K hK
        obtain ⟨o1, o2⟩ := hG
        obtain ⟨_, hf, rfl⟩ := got (hd 0 (by kernel_rfl)) hf
        exact dv_ hK hw (wn rfl) (r_load_cell ty37 hf rfl (o1.cl.at_ 4 _ rfl)) rfl
      · intro ρ w a hw hG hf hd K hK
        obtain ⟨o1, o2⟩ := hG
        exact dv_ hK hw (wn rfl) (r_move hf rfl) rfl
      · intro ρ w a hw hG hf hd K hK
        obtain ⟨o1, o2⟩ := hG
        obtain ⟨_, hf, rfl⟩ := got (hd 1 (by kernel_rfl)) hf
        obtain ⟨_, hf, rfl⟩ := got (hd 2 (by kernel_rfl)) hf
        exact dv_ hK hw (wn rfl) (r_idx Try.underlying37 sz82 hf rfl ⟨_, he6⟩ rfl hc5.1 hc5.2) rfl
      · intro ρ w a hw hG hf hd K hK
        obtain ⟨o1, o2⟩ := hG
        obtain ⟨_, hf, rfl⟩ := got (hd 3 (by kernel_rfl)) hf
        exact dv_ hK hw (wn rfl) (r_load_agg ty82 hf rfl (hl6.below hw.below) (cProd.len _)) rfl
      · intro ρ w a hw hG hf hd K hK
        obtain ⟨o1, o2⟩ := hG
        exact dv_ hK hw (wn rfl) (r_fa fa39_4 hf rfl) rfl
      · intro ρ w a hw hG hf hd K hK
        obtain ⟨o1, o2⟩ := hG
        obtain ⟨_, hf, rfl⟩ := got (hd 5 (by kernel_rfl)) hf
        exact dv_ hK hw (wn rfl) (r_load_cell ty37 hf rfl (o2.cl.at_ 4 _ rfl)) rfl
      · intro ρ w a hw hG hf hd K hK
        obtain ⟨o1, o2⟩ := hG
        exact dv_ hK hw (wn rfl) (r_move hf rfl) rfl
      · intro ρ w a hw hG hf hd K hK
        obtain ⟨o1, o2⟩ := hG
        obtain ⟨_, hf, rfl⟩ := got (hd 6 (by kernel_rfl)) hf
        obtain ⟨_, hf, rfl⟩ := got (hd 7 (by kernel_rfl)) hf
        exact dv_ hK hw (wn rfl) (r_idx Try.underlying37 sz82 hf rfl ⟨_, he8⟩ rfl hc7.1 hc7.2) rfl
      · intro ρ w a hw hG hf hd K hK
        obtain ⟨o1, o2⟩ := hG
        obtain ⟨_, hf, rfl⟩ := got (hd 8 (by kernel_rfl)) hf
        exact dv_ hK hw (wn rfl) (r_load_agg ty82 hf rfl (hl8.below hw.below) (cProd.len _)) rfl
    intro ρ w a hw hG hf hd
    obtain ⟨o1, o2⟩ := hG
    obtain ⟨_, hf, rfl⟩ := got (hd 4 (by decide)) hf
    obtain ⟨_, hf, rfl⟩ := got (hd 9 (by decide)) hf
    refine s_ hf (r_ne (d := cProd) eq82 ⟨_, rfl⟩ gt82 hf rfl rfl) fun a hf => ?_
    refine c_nt ?_
    rcases of_ite hF with ⟨hb9, hF⟩ | ⟨hb9, hF⟩
    rotate_left
    · refine c_iff hf rfl hb9 <| c_skip <| n_block <| n_then <| c_region ?_
      refine s_ hf (r_move hf rfl) fun a hf => ?_
      refine s_ hf (r_add hf rfl rfl) fun a hf => ?_
      refine s_ hf (r_assign hf rfl) fun a hf => ?_
      refine c_nil ?_
      obtain rfl := Option.some.inj hF
      exact Rnd.goes ⟨_, hw, hf.sub ⟨rfl, rfl, rfl, trivial⟩, o1, o2⟩
    refine c_ift hf rfl hb9 <| c_seq <| c_region ?_
    refine s_ hf (r_assign hf rfl) fun a hf => ?_
    refine c_nt <| c_retc ?_
    obtain rfl := Option.some.inj hF
    refine r_block <| r_then ?_
    refine Rnd.rets fun ho => ?_
    subst ho
    have hF := hG2
    dsimp only at hF
    obtain rfl := Option.some.inj hF
    refine r_block <| r_then <| c_ret hf (res_tmp Try.results144 hf rfl) ?_
    exact ⟨_, rfl, hw.below, rfl⟩
  rintro s3 a w hs ⟨ρ, hw, hf⟩
  subst hs
  have hF := hG2
  dsimp only at hF
  refine x_block <| n_then <| c_seq <| c_region ?_
  refine s_ hf (r_assign hf rfl) fun a hf => ?_
  refine c_nt <| c_retc ?_
  obtain rfl := Option.some.inj hF
  refine c_ret hf (res_tmp Try.results144 hf rfl) ?_
  exact ⟨_, rfl, hw.below, rfl⟩
/-! f99 -/
noncomputable def spec_l04Count_l21 (a0 : Sch) (a1 : Sch) (x1 : List (List (List Int))) (x5 : List (List (List Int))) (x9 : List (List (List Int))) (s15 : Int) (s19 : Int) (s22 : Int) (s23 : Int) : Option (LR (Int × Int) Int) :=
  if (decide (s23 < (x9.length : Int))) = true then (if 0 ≤ s15 ∧ s15 < (x1.length : Int) then ((spec_l04Inverse 2 (gl [] x1 s15)).bind fun x27 => if 0 ≤ s19 ∧ s19 < (x5.length : Int) then ((spec_l04Inverse 2 (gl [] x5 s19)).bind fun x33 => if 0 ≤ s23 ∧ s23 < (x9.length : Int) then ((spec_l04Inverse 2 (gl [] x9 s23)).bind fun x39 => (spec_l04Change a0 (gl [] x1 s15, gl [] x5 s19, gl [] x9 s23) (x27.1, x33.1, x39.1)).bind fun x46 => (spec_l01Sorted x46).bind fun x50 => (spec_l04Same x50 a1).bind fun x54 => if x54 = true then (some (.next (w64 (s22 + 1), w64 (s23 + 1)))) else (some (.next (s22, w64 (s23 + 1))))) else none) else none) else none) else (some (.stop (s22, s23)))
noncomputable def spec_l04Count_l17 (a0 : Sch) (a1 : Sch) (x1 : List (List (List Int))) (x5 : List (List (List Int))) (x9 : List (List (List Int))) (s15 : Int) (s18 : Int) (s19 : Int) : Option (LR (Int × Int) Int) :=
  if (decide (s19 < (x5.length : Int))) = true then ((iter (fun s => spec_l04Count_l21 a0 a1 x1 x5 x9 s15 s19 s.1 s.2) (s18, 0)).bind fun o => match o with | .stop (s22, s23) => (some (.next (s22, w64 (s19 + 1)))) | .ret r => some (.ret r) | .next _ => none) else (some (.stop (s18, s19)))
noncomputable def spec_l04Count_l13 (a0 : Sch) (a1 : Sch) (x1 : List (List (List Int))) (x5 : List (List (List Int))) (x9 : List (List (List Int))) (s14 : Int) (s15 : Int) : Option (LR (Int × Int) Int) :=
  if (decide (s15 < (x1.length : Int))) = true then ((iter (fun s => spec_l04Count_l17 a0 a1 x1 x5 x9 s15 s.1 s.2) (s14, 0)).bind fun o => match o with | .stop (s18, s19) => (some (.next (s18, w64 (s15 + 1)))) | .ret r => some (.ret r) | .next _ => none) else (some (.stop (s14, s15)))
noncomputable def spec_l04Count (a0 : Sch) (a1 : Sch) : Option Int :=
  (spec_l04All a0.n).bind fun x1 => (spec_l04All a0.m).bind fun x5 => (spec_l04All a0.k).bind fun x9 => (iter (fun s => spec_l04Count_l13 a0 a1 x1 x5 x9 s.1 s.2) (0, 0)).bind fun o => match o with | .stop (s14, s15) => (some (s14)) | .ret r => some r | .next _ => none
theorem spec_l04Count_ok {w0 : World} {a0 : Sch} {a1 : Sch} {va0 : Value} {va1 : Value} (h0 : Ro (kf cProd) w0 va0 a0.ps) (h1 : Ro (kf cProd) w0 va1 a1.ps) {r : Int} (hF : spec_l04Count a0 a1 = some r) :
    Calls Try.prog 99 [.agg ([vI a0.p, vI a0.n, vI a0.m, vI a0.k, va0]).toArray, .agg ([vI a1.p, vI a1.n, vI a1.m, vI a1.k, va1]).toArray].toArray w0 fun e w => ∃ v, e = .returned v ∧ Below w0.heap.size w0 w ∧ .int .i64 r = v := by
  refine calls_of (k := 96) Try.func99 rfl rfl (Nat.le_of_ble_eq_true rfl) fun a hf => ?_
  replace hf : Fr 96 a [(0, .agg ([vI a0.p, vI a0.n, vI a0.m, vI a0.k, va0]).toArray), (1, .agg ([vI a1.p, vI a1.n, vI a1.m, vI a1.k, va1]).toArray)] := hf
  refine c_start fun w ρ hw => ?_
  unfold spec_l04Count at hF
  refine c_seq <| c_region ?_
  refine sx_ hf (r_box (cs := [vI a0.p, vI a0.n, vI a0.m, vI a0.k, va0]) 1 hw hf rfl rfl) fun a v w hf hΦ => ?_
  obtain ⟨g1, ρ, rfl, hw, hE, o1⟩ := hΦ
  refine sx_ hf (r_box (cs := [vI a1.p, vI a1.n, vI a1.m, vI a1.k, va1]) 2 hw hf rfl rfl) fun a v w hf hΦ => ?_
  obtain ⟨g2, ρ, rfl, hw, hE, o2⟩ := hΦ
  replace o1 := o1.ext hE
  refine s_ hf (r_assign hf rfl) fun a hf => ?_
  refine c_nt <| c_seq <| c_region ?_
  refine s_ hf (r_assign hf rfl) fun a hf => ?_
  refine c_nt <| c_seq ?_
  obtain ⟨x1, hx2, hF⟩ := of_bind hF
  obtain ⟨x5, hx6, hF⟩ := of_bind hF
  replace hf : Fr 96 a [(2, .pointer (some ((⟨g1, 0, none⟩ : Addr).add 0))), (3, .pointer (some ((⟨g2, 0, none⟩ : Addr).add 0))), (5, vI 0)] := hf.sub ⟨rfl, rfl, rfl, trivial⟩
  refine c_drawL (h := 8) mixed (by kernel_rfl) (by kernel_rfl) (fun ρ w => Va ρ w 1 g1 39 ([vI a0.p, vI a0.n, vI a0.m, vI a0.k, va0]) ∧ Va ρ w 2 g2 39 ([vI a1.p, vI a1.n, vI a1.m, vI a1.k, va1])) ?_ [fun ρ w v => .pointer (some ((⟨g1, 0, none⟩ : Addr).add (0 + 1))) = v, fun ρ w v => vI a0.n = v, fun ρ w v => ∃ u3, u3 = v ∧ O24 ρ w w0 3 u3 x1, fun ρ w v => .pointer (some ((⟨g1, 0, none⟩ : Addr).add (0 + 2))) = v, fun ρ w v => vI a0.m = v, fun ρ w v => ∃ u7, u7 = v ∧ O24 ρ w w0 4 u7 x5, fun ρ w v => .pointer (some ((⟨g1, 0, none⟩ : Addr).add (0 + 3))) = v, fun ρ w v => vI a0.k = v] ?_ hw ⟨o1, o2⟩ hf ?_ ?_
  · intro ρ w ρ' w' hE hG
    obtain ⟨o1, o2⟩ := hG
    exact ⟨o1.ext hE, o2.ext hE⟩
  · exact LastsL.cons (fun _ _ _ _ _ _ h => h) <| LastsL.cons (fun _ _ _ _ _ _ h => h) <| LastsL.cons (fun _ _ _ _ _ hE h => by obtain ⟨u3, h, o3⟩ := h; exact ⟨_, h, o3.ext hE⟩) <| LastsL.cons (fun _ _ _ _ _ _ h => h) <| LastsL.cons (fun _ _ _ _ _ _ h => h) <| LastsL.cons (fun _ _ _ _ _ hE h => by obtain ⟨u7, h, o4⟩ := h; exact ⟨_, h, o4.ext hE⟩) <| LastsL.cons (fun _ _ _ _ _ _ h => h) <| LastsL.cons (fun _ _ _ _ _ _ h => h) <| LastsL.nil
  · refine StepsB.cons ?_ <| StepsB.cons ?_ <| StepsB.cons ?_ <| StepsB.cons ?_ <| StepsB.cons ?_ <| StepsB.cons ?_ <| StepsB.cons ?_ <| StepsB.cons ?_ <| StepsB.nil
    · intro ρ w a hw hG hf hd K hK
      obtain ⟨o1, o2⟩ := hG
      exact dv_ hK hw (wn rfl) (r_fa fa39_1 hf rfl) rfl
    · intro ρ w a hw hG hf hd K hK
      obtain ⟨o1, o2⟩ := hG
      obtain ⟨_, hf, rfl⟩ := got (hd 0 (by kernel_rfl)) hf
      exact dv_ hK hw (wn rfl) (r_load_cell ty2 hf rfl (o1.cl.at_ 1 _ rfl)) rfl
    · intro ρ w a hw hG hf hd K hK
      obtain ⟨o1, o2⟩ := hG
      obtain ⟨_, hf, rfl⟩ := got (hd 1 (by kernel_rfl)) hf
      refine dc_ hK hw (wn rfl) (r_fn en143 hf rfl) (spec_l04All_ok  hx2) fun v w' hΦ => ?_
      obtain ⟨hb, hΦ⟩ := hΦ
      obtain ⟨u3, rfl, hr4⟩ := hΦ
      have hE := Ext.new (ρ := ρ) 3 hb
      have o3 := Fresh.own (ρ := ρ) (B := w0.heap.size) hr4 hw.below.size 3
      exact ⟨_, hw.new 3 hb, hE, ex_ <| an_ rfl <| o3⟩
    · intro ρ w a hw hG hf hd K hK
      obtain ⟨o1, o2⟩ := hG
      exact dv_ hK hw (wn rfl) (r_fa fa39_2 hf rfl) rfl
    · intro ρ w a hw hG hf hd K hK
      obtain ⟨o1, o2⟩ := hG
      obtain ⟨_, hf, rfl⟩ := got (hd 3 (by kernel_rfl)) hf
      exact dv_ hK hw (wn rfl) (r_load_cell ty2 hf rfl (o1.cl.at_ 2 _ rfl)) rfl
    · intro ρ w a hw hG hf hd K hK
      obtain ⟨o1, o2⟩ := hG
      obtain ⟨_, hf, rfl⟩ := got (hd 4 (by kernel_rfl)) hf
      refine dc_ hK hw (wn rfl) (r_fn en143 hf rfl) (spec_l04All_ok  hx6) fun v w' hΦ => ?_
      obtain ⟨hb, hΦ⟩ := hΦ
      obtain ⟨u7, rfl, hr8⟩ := hΦ
      have hE := Ext.new (ρ := ρ) 4 hb
      have o4 := Fresh.own (ρ := ρ) (B := w0.heap.size) hr8 hw.below.size 4
      exact ⟨_, hw.new 4 hb, hE, ex_ <| an_ rfl <| o4⟩
    · intro ρ w a hw hG hf hd K hK
      obtain ⟨o1, o2⟩ := hG
      exact dv_ hK hw (wn rfl) (r_fa fa39_3 hf rfl) rfl
    · intro ρ w a hw hG hf hd K hK
      obtain ⟨o1, o2⟩ := hG
      obtain ⟨_, hf, rfl⟩ := got (hd 6 (by kernel_rfl)) hf
      exact dv_ hK hw (wn rfl) (r_load_cell ty2 hf rfl (o1.cl.at_ 3 _ rfl)) rfl
  intro ρ w a hw hG hf hd
  obtain ⟨o1, o2⟩ := hG
  obtain ⟨_, hf, ⟨u3, rfl, o3⟩⟩ := got (hd 2 (by decide)) hf
  obtain ⟨_, hf, ⟨u7, rfl, o4⟩⟩ := got (hd 5 (by decide)) hf
  obtain ⟨_, hf, rfl⟩ := got (hd 7 (by decide)) hf
  obtain ⟨x9, hx10, hF⟩ := of_bind hF
  refine st_fn 5 hw hf rfl rfl (by decide) (r_fn en143 hf rfl) (spec_l04All_ok  hx10) fun a v w ρ hf hw hE hN hΦ => ?_
  obtain ⟨u11, rfl, hr12⟩ := hΦ
  replace o1 := o1.ext hE
  replace o2 := o2.ext hE
  replace o3 := o3.ext hE
  replace o4 := o4.ext hE
  have o5 := hN hr12
  refine s_ hf (r_assign hf rfl) fun a hf => ?_
  refine s_ hf (r_assign hf rfl) fun a hf => ?_
  refine s_ hf (r_assign hf rfl) fun a hf => ?_
  refine c_nt <| c_seq <| c_seq <| c_region ?_
  refine s_ hf (r_assign hf rfl) fun a hf => ?_
  refine c_nt ?_
  obtain ⟨ol13, ho13, hG13⟩ := of_bind hF
  clear hF
  refine c_block (c_loop (id := 0) (fun s => spec_l04Count_l13 a0 a1 x1 x5 x9 s.1 s.2) (fun (s : Int × Int) a w => match s with | (s14, s15) => ∃ ρ, Wd w0 ρ w ∧ Fr 96 a [(2, .pointer (some ((⟨g1, 0, none⟩ : Addr).add 0))), (3, .pointer (some ((⟨g2, 0, none⟩ : Addr).add 0))), (5, vI s14), (6, u3), (7, u7), (8, u11), (9, vI s15)] ∧ Va ρ w 1 g1 39 ([vI a0.p, vI a0.n, vI a0.m, vI a0.k, va0]) ∧ Va ρ w 2 g2 39 ([vI a1.p, vI a1.n, vI a1.m, vI a1.k, va1]) ∧ O24 ρ w w0 3 u3 x1 ∧ O24 ρ w w0 4 u7 x5 ∧ O24 ρ w w0 5 u11 x9) (fun (s : Int × Int) a w => match s with | (s14, s15) => ∃ ρ, Wd w0 ρ w ∧ Fr 96 a [(5, vI s14)]) ho13 ⟨_, hw, hf.sub ⟨rfl, rfl, rfl, rfl, rfl, rfl, rfl, trivial⟩, o1, o2, o3, o4, o5⟩ ?_ ?_)
  · rintro ⟨s14, s15⟩ lr a w ⟨ρ, hw, hf, o1, o2, o3, o4, o5⟩ hF
    replace hF : spec_l04Count_l13 a0 a1 x1 x5 x9 s14 s15 = some lr := hF
    unfold spec_l04Count_l13 at hF
    refine c_seq <| c_seq <| c_region ?_
    refine s_ hf (r_move hf rfl) fun a hf => ?_
    refine s_ hf (r_move hf rfl) fun a hf => ?_
    refine s_ hf (r_len Try.underlying100 o3.ro hf rfl) fun a hf => ?_
    refine s_ hf (r_lss hf rfl rfl) fun a hf => ?_
    refine c_nt ?_
    rcases of_ite hF with ⟨hb16, hF⟩ | ⟨hb16, hF⟩
    rotate_left
    · refine c_iff hf rfl hb16 <| c_exit <| x_then ?_
      obtain rfl := Option.some.inj hF
      exact Rnd.stops ⟨_, hw, hf.sub ⟨rfl, trivial⟩⟩
    refine c_ift hf rfl hb16 <| c_skip <| n_then <| c_seq <| c_block <| c_seq <| c_region ?_
    refine s_ hf (r_assign hf rfl) fun a hf => ?_
    refine c_nt ?_
    obtain ⟨ol17, ho17, hG17⟩ := of_bind hF
    clear hF
    refine c_block (c_loop (id := 2) (fun s => spec_l04Count_l17 a0 a1 x1 x5 x9 s15 s.1 s.2) (fun (s : Int × Int) a w => match s with | (s18, s19) => ∃ ρ, Wd w0 ρ w ∧ Fr 96 a [(2, .pointer (some ((⟨g1, 0, none⟩ : Addr).add 0))), (3, .pointer (some ((⟨g2, 0, none⟩ : Addr).add 0))), (5, vI s18), (6, u3), (7, u7), (8, u11), (9, vI s15), (10, vI s19)] ∧ Va ρ w 1 g1 39 ([vI a0.p, vI a0.n, vI a0.m, vI a0.k, va0]) ∧ Va ρ w 2 g2 39 ([vI a1.p, vI a1.n, vI a1.m, vI a1.k, va1]) ∧ O24 ρ w w0 3 u3 x1 ∧ O24 ρ w w0 4 u7 x5 ∧ O24 ρ w w0 5 u11 x9) (fun (s : Int × Int) a w => match s with | (s18, s19) => ∃ ρ, Wd w0 ρ w ∧ Fr 96 a [(2, .pointer (some ((⟨g1, 0, none⟩ : Addr).add 0))), (3, .pointer (some ((⟨g2, 0, none⟩ : Addr).add 0))), (5, vI s18), (6, u3), (7, u7), (8, u11), (9, vI s15)] ∧ Va ρ w 1 g1 39 ([vI a0.p, vI a0.n, vI a0.m, vI a0.k, va0]) ∧ Va ρ w 2 g2 39 ([vI a1.p, vI a1.n, vI a1.m, vI a1.k, va1]) ∧ O24 ρ w w0 3 u3 x1 ∧ O24 ρ w w0 4 u7 x5 ∧ O24 ρ w w0 5 u11 x9) ho17 ⟨_, hw, hf.sub ⟨rfl, rfl, rfl, rfl, rfl, rfl, rfl, rfl, trivial⟩, o1, o2, o3, o4, o5⟩ ?_ ?_)
    · rintro ⟨s18, s19⟩ lr a w ⟨ρ, hw, hf, o1, o2, o3, o4, o5⟩ hF
      replace hF : spec_l04Count_l17 a0 a1 x1 x5 x9 s15 s18 s19 = some lr := hF
      unfold spec_l04Count_l17 at hF
      refine c_seq <| c_seq <| c_region ?_
      refine s_ hf (r_move hf rfl) fun a hf => ?_
      refine s_ hf (r_move hf rfl) fun a hf => ?_
      refine s_ hf (r_len Try.underlying100 o4.ro hf rfl) fun a hf => ?_
      refine s_ hf (r_lss hf rfl rfl) fun a hf => ?_
      refine c_nt ?_
      rcases of_ite hF with ⟨hb20, hF⟩ | ⟨hb20, hF⟩
      rotate_left
      · refine c_iff hf rfl hb20 <| c_exit <| x_then ?_
        obtain rfl := Option.some.inj hF
        exact Rnd.stops ⟨_, hw, hf.sub ⟨rfl, rfl, rfl, rfl, rfl, rfl, rfl, trivial⟩, o1, o2, o3, o4, o5⟩
      refine c_ift hf rfl hb20 <| c_skip <| n_then <| c_seq <| c_block <| c_seq <| c_region ?_
      refine s_ hf (r_assign hf rfl) fun a hf => ?_
      refine c_nt ?_
      obtain ⟨ol21, ho21, hG21⟩ := of_bind hF
      clear hF
      refine c_block (c_loop (id := 4) (fun s => spec_l04Count_l21 a0 a1 x1 x5 x9 s15 s19 s.1 s.2) (fun (s : Int × Int) a w => match s with | (s22, s23) => ∃ ρ, Wd w0 ρ w ∧ Fr 96 a [(2, .pointer (some ((⟨g1, 0, none⟩ : Addr).add 0))), (3, .pointer (some ((⟨g2, 0, none⟩ : Addr).add 0))), (5, vI s22), (6, u3), (7, u7), (8, u11), (9, vI s15), (10, vI s19), (11, vI s23)] ∧ Va ρ w 1 g1 39 ([vI a0.p, vI a0.n, vI a0.m, vI a0.k, va0]) ∧ Va ρ w 2 g2 39 ([vI a1.p, vI a1.n, vI a1.m, vI a1.k, va1]) ∧ O24 ρ w w0 3 u3 x1 ∧ O24 ρ w w0 4 u7 x5 ∧ O24 ρ w w0 5 u11 x9) (fun (s : Int × Int) a w => match s with | (s22, s23) => ∃ ρ, Wd w0 ρ w ∧ Fr 96 a [(2, .pointer (some ((⟨g1, 0, none⟩ : Addr).add 0))), (3, .pointer (some ((⟨g2, 0, none⟩ : Addr).add 0))), (5, vI s22), (6, u3), (7, u7), (8, u11), (9, vI s15), (10, vI s19)] ∧ Va ρ w 1 g1 39 ([vI a0.p, vI a0.n, vI a0.m, vI a0.k, va0]) ∧ Va ρ w 2 g2 39 ([vI a1.p, vI a1.n, vI a1.m, vI a1.k, va1]) ∧ O24 ρ w w0 3 u3 x1 ∧ O24 ρ w w0 4 u7 x5 ∧ O24 ρ w w0 5 u11 x9) ho21 ⟨_, hw, hf.sub ⟨rfl, rfl, rfl, rfl, rfl, rfl, rfl, rfl, rfl, trivial⟩, o1, o2, o3, o4, o5⟩ ?_ ?_)
      · rintro ⟨s22, s23⟩ lr a w ⟨ρ, hw, hf, o1, o2, o3, o4, o5⟩ hF
        replace hF : spec_l04Count_l21 a0 a1 x1 x5 x9 s15 s19 s22 s23 = some lr := hF
        unfold spec_l04Count_l21 at hF
        refine c_seq <| c_seq <| c_region ?_
        refine s_ hf (r_move hf rfl) fun a hf => ?_
        refine s_ hf (r_move hf rfl) fun a hf => ?_
        refine s_ hf (r_len Try.underlying100 o5.ro hf rfl) fun a hf => ?_
        refine s_ hf (r_lss hf rfl rfl) fun a hf => ?_
        refine c_nt ?_
        rcases of_ite hF with ⟨hb24, hF⟩ | ⟨hb24, hF⟩
        rotate_left
        · refine c_iff hf rfl hb24 <| c_exit <| x_then ?_
          obtain rfl := Option.some.inj hF
          exact Rnd.stops ⟨_, hw, hf.sub ⟨rfl, rfl, rfl, rfl, rfl, rfl, rfl, rfl, trivial⟩, o1, o2, o3, o4, o5⟩
        refine c_ift hf rfl hb24 <| c_skip <| n_then <| c_seq <| c_block <| c_seq <| c_region ?_
        refine s_ hf (r_move hf rfl) fun a hf => ?_
        refine s_ hf (r_move hf rfl) fun a hf => ?_
        obtain ⟨hc25, hF⟩ := of_guard hF
        obtain ⟨ad26, c26, u26, he26, hl26, ho26⟩ := Ro.el_row o3.ro hc25.1 hc25.2
        refine s_ hf (r_idx Try.underlying100 sz24 hf rfl ⟨_, he26⟩ rfl hc25.1 hc25.2) fun a hf => ?_
        refine s_ hf (r_load_cell ty24 hf rfl hl26) fun a hf => ?_
        obtain ⟨x27, hx28, hF⟩ := of_bind hF
        refine st_fn 8 hw hf rfl rfl (by decide) (r_fn en57 hf rfl) (spec_l04Inverse_ok ho26 hx28) fun a v w ρ hf hw hE hN hΦ => ?_
        obtain ⟨u29, rfl, hr30⟩ := hΦ
        replace o1 := o1.ext hE
        replace o2 := o2.ext hE
        replace o3 := o3.ext hE
        replace o4 := o4.ext hE
        replace o5 := o5.ext hE
        replace ho26 := ho26.ext hE
        replace hl26 := hl26.ext hE
        have o8 := hN hr30
        refine s_ hf (r_move hf rfl) fun a hf => ?_
        refine s_ hf (r_extract hf rfl rfl) fun a hf => ?_
        refine s_ hf (r_extract hf rfl rfl) fun a hf => ?_
        refine s_ hf (r_assign hf rfl) fun a hf => ?_
        refine s_ hf (r_assign hf rfl) fun a hf => ?_
        refine c_nt <| c_seq <| c_region ?_
        refine s_ hf (r_move hf rfl) fun a hf => ?_
        refine s_ hf (r_move hf rfl) fun a hf => ?_
        obtain ⟨hc31, hF⟩ := of_guard hF
        obtain ⟨ad32, c32, u32, he32, hl32, ho32⟩ := Ro.el_row o4.ro hc31.1 hc31.2
        refine s_ hf (r_idx Try.underlying100 sz24 hf rfl ⟨_, he32⟩ rfl hc31.1 hc31.2) fun a hf => ?_
        refine s_ hf (r_load_cell ty24 hf rfl hl32) fun a hf => ?_
        obtain ⟨x33, hx34, hF⟩ := of_bind hF
        refine st_fn 11 hw hf rfl rfl (by decide) (r_fn en57 hf rfl) (spec_l04Inverse_ok ho32 hx34) fun a v w ρ hf hw hE hN hΦ => ?_
        obtain ⟨u35, rfl, hr36⟩ := hΦ
        replace o1 := o1.ext hE
        replace o2 := o2.ext hE
        replace o3 := o3.ext hE
        replace o4 := o4.ext hE
        replace o5 := o5.ext hE
        replace ho26 := ho26.ext hE
        replace hl26 := hl26.ext hE
        replace o8 := o8.ext hE
        replace ho32 := ho32.ext hE
        replace hl32 := hl32.ext hE
        have o11 := hN hr36
        refine s_ hf (r_move hf rfl) fun a hf => ?_
        refine s_ hf (r_extract hf rfl rfl) fun a hf => ?_
        refine s_ hf (r_extract hf rfl rfl) fun a hf => ?_
        refine s_ hf (r_assign hf rfl) fun a hf => ?_
        refine s_ hf (r_assign hf rfl) fun a hf => ?_
        refine c_nt <| c_seq <| c_region ?_
        refine s_ hf (r_move hf rfl) fun a hf => ?_
        refine s_ hf (r_move hf rfl) fun a hf => ?_
        obtain ⟨hc37, hF⟩ := of_guard hF
        obtain ⟨ad38, c38, u38, he38, hl38, ho38⟩ := Ro.el_row o5.ro hc37.1 hc37.2
        refine s_ hf (r_idx Try.underlying100 sz24 hf rfl ⟨_, he38⟩ rfl hc37.1 hc37.2) fun a hf => ?_
        refine s_ hf (r_load_cell ty24 hf rfl hl38) fun a hf => ?_
        obtain ⟨x39, hx40, hF⟩ := of_bind hF
        refine st_fn 14 hw hf rfl rfl (by decide) (r_fn en57 hf rfl) (spec_l04Inverse_ok ho38 hx40) fun a v w ρ hf hw hE hN hΦ => ?_
        obtain ⟨u41, rfl, hr42⟩ := hΦ
        replace o1 := o1.ext hE
        replace o2 := o2.ext hE
        replace o3 := o3.ext hE
        replace o4 := o4.ext hE
        replace o5 := o5.ext hE
        replace ho26 := ho26.ext hE
        replace hl26 := hl26.ext hE
        replace o8 := o8.ext hE
        replace ho32 := ho32.ext hE
        replace hl32 := hl32.ext hE
        replace o11 := o11.ext hE
        replace ho38 := ho38.ext hE
        replace hl38 := hl38.ext hE
        have o14 := hN hr42
        refine s_ hf (r_move hf rfl) fun a hf => ?_
        refine s_ hf (r_extract hf rfl rfl) fun a hf => ?_
        refine s_ hf (r_extract hf rfl rfl) fun a hf => ?_
        refine s_ hf (r_assign hf rfl) fun a hf => ?_
        refine s_ hf (r_assign hf rfl) fun a hf => ?_
        refine c_nt <| c_seq ?_
        obtain ⟨x46, hx47, hF⟩ := of_bind hF
        replace hf : Fr 96 a [(2, .pointer (some ((⟨g1, 0, none⟩ : Addr).add 0))), (3, .pointer (some ((⟨g2, 0, none⟩ : Addr).add 0))), (5, vI s22), (6, u3), (7, u7), (8, u11), (9, vI s15), (10, vI s19), (11, vI s23), (12, u29), (14, u35), (16, u41)] := hf.sub ⟨rfl, rfl, rfl, rfl, rfl, rfl, rfl, rfl, rfl, rfl, rfl, rfl, trivial⟩
        refine c_drawL (h := 20) mixed (by kernel_rfl) (by kernel_rfl) (fun ρ w => Va ρ w 1 g1 39 ([vI a0.p, vI a0.n, vI a0.m, vI a0.k, va0]) ∧ Va ρ w 2 g2 39 ([vI a1.p, vI a1.n, vI a1.m, vI a1.k, va1]) ∧ O24 ρ w w0 3 u3 x1 ∧ O24 ρ w w0 4 u7 x5 ∧ O24 ρ w w0 5 u11 x9 ∧ O36 ρ w w0 8 u29 x27.1 ∧ O36 ρ w w0 11 u35 x33.1 ∧ O36 ρ w w0 14 u41 x39.1) ?_ [fun ρ w v => .agg ([vI a0.p, vI a0.n, vI a0.m, vI a0.k, va0]).toArray = v, fun ρ w v => u3 = v, fun ρ w v => vI s15 = v, fun ρ w v => ∃ u43 ad43, .pointer (some (ad43.add (s15.toNat * 1))) = v ∧ Ro (Kd.slice 2 (kf fI64)) w u43 (gl [] x1 s15) ∧ Cl w ad43 (s15.toNat * 1) ([u43]), fun ρ w v => ∃ u43, u43 = v ∧ Ro (Kd.slice 2 (kf fI64)) w u43 (gl [] x1 s15), fun ρ w v => u7 = v, fun ρ w v => vI s19 = v, fun ρ w v => ∃ u44 ad44, .pointer (some (ad44.add (s19.toNat * 1))) = v ∧ Ro (Kd.slice 2 (kf fI64)) w u44 (gl [] x5 s19) ∧ Cl w ad44 (s19.toNat * 1) ([u44]), fun ρ w v => ∃ u44, u44 = v ∧ Ro (Kd.slice 2 (kf fI64)) w u44 (gl [] x5 s19), fun ρ w v => u11 = v, fun ρ w v => vI s23 = v, fun ρ w v => ∃ u45 ad45, .pointer (some (ad45.add (s23.toNat * 1))) = v ∧ Ro (Kd.slice 2 (kf fI64)) w u45 (gl [] x9 s23) ∧ Cl w ad45 (s23.toNat * 1) ([u45]), fun ρ w v => ∃ u45, u45 = v ∧ Ro (Kd.slice 2 (kf fI64)) w u45 (gl [] x9 s23), fun ρ w v => ∃ u43 u44 u45, .agg ([u43, u44, u45]).toArray = v ∧ Ro (Kd.slice 2 (kf fI64)) w u43 (gl [] x1 s15) ∧ Ro (Kd.slice 2 (kf fI64)) w u44 (gl [] x5 s19) ∧ Ro (Kd.slice 2 (kf fI64)) w u45 (gl [] x9 s23), fun ρ w v => u29 = v, fun ρ w v => u35 = v, fun ρ w v => u41 = v, fun ρ w v => .agg ([u29, u35, u41]).toArray = v, fun ρ w v => ∃ u48, .agg ([vI x46.p, vI x46.n, vI x46.m, vI x46.k, u48]).toArray = v ∧ O82 ρ w w0 21 u48 x46.ps, fun ρ w v => ∃ g22, .pointer (some ((⟨g22, 0, none⟩ : Addr).add 0)) = v ∧ Va ρ w 22 g22 39 ([vI 0, vI 0, vI 0, vI 0, (.slice none 0 0)]) ∧ O82 ρ w w0 23 (.slice none 0 0) ([] : List Prod)] ?_ hw ⟨o1, o2, o3, o4, o5, o8, o11, o14⟩ hf ?_ ?_
        · intro ρ w ρ' w' hE hG
          obtain ⟨o1, o2, o3, o4, o5, o8, o11, o14⟩ := hG
          exact ⟨o1.ext hE, o2.ext hE, o3.ext hE, o4.ext hE, o5.ext hE, o8.ext hE, o11.ext hE, o14.ext hE⟩
        · exact LastsL.cons (fun _ _ _ _ _ _ h => h) <| LastsL.cons (fun _ _ _ _ _ _ h => h) <| LastsL.cons (fun _ _ _ _ _ _ h => h) <| LastsL.cons (fun _ _ _ _ _ hE h => by obtain ⟨u43, ad43, h, ho43, hl43⟩ := h; exact ⟨_, _, h, ho43.ext hE, hl43.ext hE⟩) <| LastsL.cons (fun _ _ _ _ _ hE h => by obtain ⟨u43, h, ho43⟩ := h; exact ⟨_, h, ho43.ext hE⟩) <| LastsL.cons (fun _ _ _ _ _ _ h => h) <| LastsL.cons (fun _ _ _ _ _ _ h => h) <| LastsL.cons (fun _ _ _ _ _ hE h => by obtain ⟨u44, ad44, h, ho44, hl44⟩ := h; exact ⟨_, _, h, ho44.ext hE, hl44.ext hE⟩) <| LastsL.cons (fun _ _ _ _ _ hE h => by obtain ⟨u44, h, ho44⟩ := h; exact ⟨_, h, ho44.ext hE⟩) <| LastsL.cons (fun _ _ _ _ _ _ h => h) <| LastsL.cons (fun _ _ _ _ _ _ h => h) <| LastsL.cons (fun _ _ _ _ _ hE h => by obtain ⟨u45, ad45, h, ho45, hl45⟩ := h; exact ⟨_, _, h, ho45.ext hE, hl45.ext hE⟩) <| LastsL.cons (fun _ _ _ _ _ hE h => by obtain ⟨u45, h, ho45⟩ := h; exact ⟨_, h, ho45.ext hE⟩) <| LastsL.cons (fun _ _ _ _ _ hE h => by obtain ⟨u43, u44, u45, h, ho43, ho44, ho45⟩ := h; exact ⟨_, _, _, h, ho43.ext hE, ho44.ext hE, ho45.ext hE⟩) <| LastsL.cons (fun _ _ _ _ _ _ h => h) <| LastsL.cons (fun _ _ _ _ _ _ h => h) <| LastsL.cons (fun _ _ _ _ _ _ h => h) <| LastsL.cons (fun _ _ _ _ _ _ h => h) <| LastsL.cons (fun _ _ _ _ _ hE h => by obtain ⟨u48, h, o21⟩ := h; exact ⟨_, h, o21.ext hE⟩) <| LastsL.cons (fun _ _ _ _ _ hE h => by obtain ⟨g22, h, o22, o23⟩ := h; exact ⟨_, h, o22.ext hE, o23.ext hE⟩) <| LastsL.nil
        · refine StepsB.cons ?_ <| StepsB.cons ?_ <| StepsB.cons ?_ <| StepsB.cons ?_ <| StepsB.cons ?_ <| StepsB.cons ?_ <| StepsB.cons ?_ <| StepsB.cons ?_ <| StepsB.cons ?_ <| StepsB.cons ?_ <| StepsB.cons ?_ <| StepsB.cons ?_ <| StepsB.cons ?_ <| StepsB.cons ?_ <| StepsB.cons ?_ <| StepsB.cons ?_ <| StepsB.cons ?_ <| StepsB.cons ?_ <| StepsB.cons ?_ <| StepsB.cons ?_ <| StepsB.nil
          · intro ρ w a hw hG hf hd K hK
            obtain ⟨o1, o2, o3, o4, o5, o8, o11, o14⟩ := hG
            exact dv_ hK hw (wn rfl) (r_load_agg ty39 hf rfl o1.cl rfl) rfl
          · intro ρ w a hw hG hf hd K hK
            obtain ⟨o1, o2, o3, o4, o5, o8, o11, o14⟩ := hG
            exact dv_ hK hw (wn rfl) (r_move hf rfl) rfl
          · intro ρ w a hw hG hf hd K hK
            obtain ⟨o1, o2, o3, o4, o5, o8, o11, o14⟩ := hG
            exact dv_ hK hw (wn rfl) (r_move hf rfl) rfl
          · intro ρ w a hw hG hf hd K hK
            obtain ⟨o1, o2, o3, o4, o5, o8, o11, o14⟩ := hG
            obtain ⟨_, hf, rfl⟩ := got (hd 1 (by kernel_rfl)) hf
            obtain ⟨_, hf, rfl⟩ := got (hd 2 (by kernel_rfl)) hf
            obtain ⟨ad43, c43, u43, he43, hl43, ho43⟩ := Ro.el_row o3.ro hc25.1 hc25.2
            exact dv_ hK hw (wn rfl) (r_idx Try.underlying100 sz24 hf rfl ⟨_, he43⟩ rfl hc25.1 hc25.2) (ex_ <| ex_ <| an_ rfl <| an_ ho43 <| hl43)
          · intro ρ w a hw hG hf hd K hK
            obtain ⟨o1, o2, o3, o4, o5, o8, o11, o14⟩ := hG
            obtain ⟨_, hf, ⟨u43, ad43, rfl, ho43, hl43⟩⟩ := got (hd 3 (by kernel_rfl)) hf
            exact dv_ hK hw (wn rfl) (r_load_cell ty24 hf rfl hl43) (ex_ <| an_ rfl <| ho43)
          · intro ρ w a hw hG hf hd K hK
            obtain ⟨o1, o2, o3, o4, o5, o8, o11, o14⟩ := hG
            exact dv_ hK hw (wn rfl) (r_move hf rfl) rfl
          · intro ρ w a hw hG hf hd K hK
            obtain ⟨o1, o2, o3, o4, o5, o8, o11, o14⟩ := hG
            exact dv_ hK hw (wn rfl) (r_move hf rfl) rfl
          · intro ρ w a hw hG hf hd K hK
            obtain ⟨o1, o2, o3, o4, o5, o8, o11, o14⟩ := hG
            obtain ⟨_, hf, rfl⟩ := got (hd 5 (by kernel_rfl)) hf
            obtain ⟨_, hf, rfl⟩ := got (hd 6 (by kernel_rfl)) hf
            obtain ⟨ad44, c44, u44, he44, hl44, ho44⟩ := Ro.el_row o4.ro hc31.1 hc31.2
            exact dv_ hK hw (wn rfl) (r_idx Try.underlying100 sz24 hf rfl ⟨_, he44⟩ rfl hc31.1 hc31.2) (ex_ <| ex_ <| an_ rfl <| an_ ho44 <| hl44)
          · intro ρ w a hw hG hf hd K hK
            obtain ⟨o1, o2, o3, o4, o5, o8, o11, o14⟩ := hG
            obtain ⟨_, hf, ⟨u44, ad44, rfl, ho44, hl44⟩⟩ := got (hd 7 (by kernel_rfl)) hf
            exact dv_ hK hw (wn rfl) (r_load_cell ty24 hf rfl hl44) (ex_ <| an_ rfl <| ho44)
          · intro ρ w a hw hG hf hd K hK
            obtain ⟨o1, o2, o3, o4, o5, o8, o11, o14⟩ := hG
            exact dv_ hK hw (wn rfl) (r_move hf rfl) rfl
          · intro ρ w a hw hG hf hd K hK
            obtain ⟨o1, o2, o3, o4, o5, o8, o11, o14⟩ := hG
            exact dv_ hK hw (wn rfl) (r_move hf rfl) rfl
          · intro ρ w a hw hG hf hd K hK
            obtain ⟨o1, o2, o3, o4, o5, o8, o11, o14⟩ := hG
            obtain ⟨_, hf, rfl⟩ := got (hd 9 (by kernel_rfl)) hf
            obtain ⟨_, hf, rfl⟩ := got (hd 10 (by kernel_rfl)) hf
            obtain ⟨ad45, c45, u45, he45, hl45, ho45⟩ := Ro.el_row o5.ro hc37.1 hc37.2
            exact dv_ hK hw (wn rfl) (r_idx Try.underlying100 sz24 hf rfl ⟨_, he45⟩ rfl hc37.1 hc37.2) (ex_ <| ex_ <| an_ rfl <| an_ ho45 <| hl45)
          · intro ρ w a hw hG hf hd K hK
            obtain ⟨o1, o2, o3, o4, o5, o8, o11, o14⟩ := hG
            obtain ⟨_, hf, ⟨u45, ad45, rfl, ho45, hl45⟩⟩ := got (hd 11 (by kernel_rfl)) hf
            exact dv_ hK hw (wn rfl) (r_load_cell ty24 hf rfl hl45) (ex_ <| an_ rfl <| ho45)
          · intro ρ w a hw hG hf hd K hK
            obtain ⟨o1, o2, o3, o4, o5, o8, o11, o14⟩ := hG
            obtain ⟨_, hf, ⟨u43, rfl, ho43⟩⟩ := got (hd 4 (by kernel_rfl)) hf
            obtain ⟨_, hf, ⟨u44, rfl, ho44⟩⟩ := got (hd 8 (by kernel_rfl)) hf
            obtain ⟨_, hf, ⟨u45, rfl, ho45⟩⟩ := got (hd 12 (by kernel_rfl)) hf
            exact dv_ hK hw (wn rfl) (r_build_arr (vs := [(0, u43), (1, u44), (2, u45)]) (res := ([u43, u44, u45]).toArray) Try.underlying97 sz24 ze97 hf rfl rfl ((fill_step (off := 0) (sz := 1) (cs := [.slice none 0 0, .slice none 0 0, .slice none 0 0]) rfl ho43.cells1 rfl (Nat.le_of_ble_eq_true rfl)).trans ((fill_step (off := 1) (sz := 1) (cs := [u43, .slice none 0 0, .slice none 0 0]) rfl ho44.cells1 rfl (Nat.le_of_ble_eq_true rfl)).trans ((fill_step (off := 2) (sz := 1) (cs := [u43, u44, .slice none 0 0]) rfl ho45.cells1 rfl (Nat.le_of_ble_eq_true rfl)).trans rfl)))) (ex_ <| ex_ <| ex_ <| an_ rfl <| an_ ho43 <| an_ ho44 <| ho45)
          · intro ρ w a hw hG hf hd K hK
            obtain ⟨o1, o2, o3, o4, o5, o8, o11, o14⟩ := hG
            exact dv_ hK hw (wn rfl) (r_move hf rfl) rfl
          · intro ρ w a hw hG hf hd K hK
            obtain ⟨o1, o2, o3, o4, o5, o8, o11, o14⟩ := hG
            exact dv_ hK hw (wn rfl) (r_move hf rfl) rfl
          · intro ρ w a hw hG hf hd K hK
            obtain ⟨o1, o2, o3, o4, o5, o8, o11, o14⟩ := hG
            exact dv_ hK hw (wn rfl) (r_move hf rfl) rfl
          · intro ρ w a hw hG hf hd K hK
            obtain ⟨o1, o2, o3, o4, o5, o8, o11, o14⟩ := hG
            obtain ⟨_, hf, rfl⟩ := got (hd 14 (by kernel_rfl)) hf
            obtain ⟨_, hf, rfl⟩ := got (hd 15 (by kernel_rfl)) hf
            obtain ⟨_, hf, rfl⟩ := got (hd 16 (by kernel_rfl)) hf
            exact dv_ hK hw (wn rfl) (r_build_arr (vs := [(0, u29), (1, u35), (2, u41)]) (res := ([u29, u35, u41]).toArray) Try.underlying97 sz24 ze97 hf rfl rfl ((fill_step (off := 0) (sz := 1) (cs := [.slice none 0 0, .slice none 0 0, .slice none 0 0]) rfl o8.ro.cells1 rfl (Nat.le_of_ble_eq_true rfl)).trans ((fill_step (off := 1) (sz := 1) (cs := [u29, .slice none 0 0, .slice none 0 0]) rfl o11.ro.cells1 rfl (Nat.le_of_ble_eq_true rfl)).trans ((fill_step (off := 2) (sz := 1) (cs := [u29, u35, .slice none 0 0]) rfl o14.ro.cells1 rfl (Nat.le_of_ble_eq_true rfl)).trans rfl)))) rfl
          · intro ρ w a hw hG hf hd K hK
            obtain ⟨o1, o2, o3, o4, o5, o8, o11, o14⟩ := hG
            obtain ⟨_, hf, rfl⟩ := got (hd 0 (by kernel_rfl)) hf
            obtain ⟨_, hf, ⟨u43, u44, u45, rfl, ho43, ho44, ho45⟩⟩ := got (hd 13 (by kernel_rfl)) hf
            obtain ⟨_, hf, rfl⟩ := got (hd 17 (by kernel_rfl)) hf
            refine dc_ hK hw (wn rfl) (r_fn en94 hf rfl) (spec_l04Change_ok (a0 := a0) (a1 := (gl [] x1 s15, gl [] x5 s19, gl [] x9 s23)) (a2 := (x27.1, x33.1, x39.1)) (h0.now hw) ho43 ho44 ho45 o8.ro o11.ro o14.ro hx47) fun v w' hΦ => ?_
            obtain ⟨hb, hΦ⟩ := hΦ
            obtain ⟨u48, rfl, hr49⟩ := hΦ
            have hE := Ext.new (ρ := ρ) 21 hb
            have o21 := Fresh.own (ρ := ρ) (B := w0.heap.size) hr49 hw.below.size 21
            exact ⟨_, hw.new 21 hb, hE, ex_ <| an_ rfl <| o21⟩
          · intro ρ w a hw hG hf hd K hK
            obtain ⟨o1, o2, o3, o4, o5, o8, o11, o14⟩ := hG
            have o23 : Ow (kf cProd) 82 ρ w w0.heap.size 23 (.slice none 0 0) [] := Ow.nil _ _ _ _ _ _
            refine dx_ hK hw (wn rfl) (r_alloc (cs := [vI 0, vI 0, vI 0, vI 0, (.slice none 0 0)]) 22 ze39 rfl hw) fun v w' hΦ => ?_
            obtain ⟨g22, ρ, rfl, hw, hE, o22⟩ := hΦ
            replace o23 := o23.ext hE
            exact ⟨_, hw, hE, ex_ <| an_ rfl <| an_ o22 <| o23⟩
        intro ρ w a hw hG hf hd
        obtain ⟨o1, o2, o3, o4, o5, o8, o11, o14⟩ := hG
        obtain ⟨_, hf, ⟨u48, rfl, o21⟩⟩ := got (hd 18 (by decide)) hf
        obtain ⟨_, hf, ⟨g22, rfl, o22, o23⟩⟩ := got (hd 19 (by decide)) hf
        refine sk_ hf (r_store_w (cs' := [vI x46.p, vI x46.n, vI x46.m, vI x46.k, u48]) hw o22 (by decide) ty39 rfl rfl (one_sch o21.ro.one) hf rfl rfl rfl) fun a w hf hΦ => ?_
        obtain ⟨hw, hA, o22⟩ := hΦ
        replace o1 := o1.adv hA (by decide)
        replace o2 := o2.adv hA (by decide)
        replace o3 := o3.adv hA (by decide)
        replace o4 := o4.adv hA (by decide)
        replace o5 := o5.adv hA (by decide)
        replace o8 := o8.adv hA (by decide)
        replace o11 := o11.adv hA (by decide)
        replace o14 := o14.adv hA (by decide)
        replace o21 := o21.adv hA (by decide)
        replace o23 := o23.adv hA (by decide)
        refine c_nt <| c_seq ?_
        obtain ⟨x50, hx51, hF⟩ := of_bind hF
        replace hf : Fr 96 a [(2, .pointer (some ((⟨g1, 0, none⟩ : Addr).add 0))), (3, .pointer (some ((⟨g2, 0, none⟩ : Addr).add 0))), (5, vI s22), (6, u3), (7, u7), (8, u11), (9, vI s15), (10, vI s19), (11, vI s23), (18, .pointer (some ((⟨g22, 0, none⟩ : Addr).add 0)))] := hf.sub ⟨rfl, rfl, rfl, rfl, rfl, rfl, rfl, rfl, rfl, rfl, trivial⟩
        refine c_drawL (h := 3) mixed (by kernel_rfl) (by kernel_rfl) (fun ρ w => Va ρ w 1 g1 39 ([vI a0.p, vI a0.n, vI a0.m, vI a0.k, va0]) ∧ Va ρ w 2 g2 39 ([vI a1.p, vI a1.n, vI a1.m, vI a1.k, va1]) ∧ O24 ρ w w0 3 u3 x1 ∧ O24 ρ w w0 4 u7 x5 ∧ O24 ρ w w0 5 u11 x9 ∧ O82 ρ w w0 21 u48 x46.ps ∧ Va ρ w 22 g22 39 ([vI x46.p, vI x46.n, vI x46.m, vI x46.k, u48])) ?_ [fun ρ w v => .agg ([vI x46.p, vI x46.n, vI x46.m, vI x46.k, u48]).toArray = v, fun ρ w v => ∃ u52, .agg ([vI x50.p, vI x50.n, vI x50.m, vI x50.k, u52]).toArray = v ∧ O82 ρ w w0 24 u52 x50.ps, fun ρ w v => .agg ([vI a1.p, vI a1.n, vI a1.m, vI a1.k, va1]).toArray = v] ?_ hw ⟨o1, o2, o3, o4, o5, o21, o22⟩ hf ?_ ?_
        · intro ρ w ρ' w' hE hG
          obtain ⟨o1, o2, o3, o4, o5, o21, o22⟩ := hG
          exact ⟨o1.ext hE, o2.ext hE, o3.ext hE, o4.ext hE, o5.ext hE, o21.ext hE, o22.ext hE⟩
        · exact LastsL.cons (fun _ _ _ _ _ _ h => h) <| LastsL.cons (fun _ _ _ _ _ hE h => by obtain ⟨u52, h, o24⟩ := h; exact ⟨_, h, o24.ext hE⟩) <| LastsL.cons (fun _ _ _ _ _ _ h => h) <| LastsL.nil
        · refine StepsB.cons ?_ <| StepsB.cons ?_ <| StepsB.cons ?_ <| StepsB.nil
          · intro ρ w a hw hG hf hd K hK
            obtain ⟨o1, o2, o3, o4, o5, o21, o22⟩ := hG
            exact dv_ hK hw (wn rfl) (r_load_agg ty39 hf rfl o22.cl rfl) rfl
          · intro ρ w a hw hG hf hd K hK
            obtain ⟨o1, o2, o3, o4, o5, o21, o22⟩ := hG
            obtain ⟨_, hf, rfl⟩ := got (hd 0 (by kernel_rfl)) hf
            refine dc_ hK hw (wn rfl) (r_fn en100 hf rfl) (spec_l01Sorted_ok (a0 := x46) o21.ro hx51) fun v w' hΦ => ?_
            obtain ⟨hb, hΦ⟩ := hΦ
            obtain ⟨u52, rfl, hr53⟩ := hΦ
            have hE := Ext.new (ρ := ρ) 24 hb
            have o24 := Fresh.own (ρ := ρ) (B := w0.heap.size) hr53 hw.below.size 24
            exact ⟨_, hw.new 24 hb, hE, ex_ <| an_ rfl <| o24⟩
          · intro ρ w a hw hG hf hd K hK
            obtain ⟨o1, o2, o3, o4, o5, o21, o22⟩ := hG
            exact dv_ hK hw (wn rfl) (r_load_agg ty39 hf rfl o2.cl rfl) rfl
        intro ρ w a hw hG hf hd
        obtain ⟨o1, o2, o3, o4, o5, o21, o22⟩ := hG
        obtain ⟨_, hf, ⟨u52, rfl, o24⟩⟩ := got (hd 1 (by decide)) hf
        obtain ⟨_, hf, rfl⟩ := got (hd 2 (by decide)) hf
        obtain ⟨x54, hx55, hF⟩ := of_bind hF
        refine st_fn 25 hw hf rfl rfl (by decide) (r_fn en144 hf rfl) (spec_l04Same_ok (a0 := x50) (a1 := a1) o24.ro (h1.now hw) hx55) fun a v w ρ hf hw hE hN hΦ => ?_
        obtain rfl := hΦ
        replace o1 := o1.ext hE
        replace o2 := o2.ext hE
        replace o3 := o3.ext hE
        replace o4 := o4.ext hE
        replace o5 := o5.ext hE
        replace o21 := o21.ext hE
        replace o22 := o22.ext hE
        replace o24 := o24.ext hE
        refine c_nt ?_
        rcases of_ite hF with ⟨hb56, hF⟩ | ⟨hb56, hF⟩
        rotate_left
        · refine c_iff hf rfl hb56 <| c_skip <| n_block <| n_then <| c_region ?_
          refine s_ hf (r_move hf rfl) fun a hf => ?_
          refine s_ hf (r_add hf rfl rfl) fun a hf => ?_
          refine s_ hf (r_assign hf rfl) fun a hf => ?_
          refine c_nil ?_
          obtain rfl := Option.some.inj hF
          exact Rnd.goes ⟨_, hw, hf.sub ⟨rfl, rfl, rfl, rfl, rfl, rfl, rfl, rfl, rfl, trivial⟩, o1, o2, o3, o4, o5⟩
        refine c_ift hf rfl hb56 <| c_region ?_
        refine s_ hf (r_move hf rfl) fun a hf => ?_
        refine s_ hf (r_add hf rfl rfl) fun a hf => ?_
        refine s_ hf (r_assign hf rfl) fun a hf => ?_
        refine c_nil <| n_block <| n_then <| c_region ?_
        refine s_ hf (r_move hf rfl) fun a hf => ?_
        refine s_ hf (r_add hf rfl rfl) fun a hf => ?_
        refine s_ hf (r_assign hf rfl) fun a hf => ?_
        refine c_nil ?_
        obtain rfl := Option.some.inj hF
        exact Rnd.goes ⟨_, hw, hf.sub ⟨rfl, rfl, rfl, rfl, rfl, rfl, rfl, rfl, rfl, trivial⟩, o1, o2, o3, o4, o5⟩
      rintro ⟨s22, s23⟩ a w hs ⟨ρ, hw, hf, o1, o2, o3, o4, o5⟩
      subst hs
      have hF := hG21
      dsimp only at hF
      refine x_block <| n_block <| n_then <| c_region ?_
      refine s_ hf (r_move hf rfl) fun a hf => ?_
      refine s_ hf (r_add hf rfl rfl) fun a hf => ?_
      refine s_ hf (r_assign hf rfl) fun a hf => ?_
      refine c_nil ?_
      obtain rfl := Option.some.inj hF
      exact Rnd.goes ⟨_, hw, hf.sub ⟨rfl, rfl, rfl, rfl, rfl, rfl, rfl, rfl, trivial⟩, o1, o2, o3, o4, o5⟩
    rintro ⟨s18, s19⟩ a w hs ⟨ρ, hw, hf, o1, o2, o3, o4, o5⟩
    subst hs
    have hF := hG17
    dsimp only at hF
    refine x_block <| n_block <| n_then <| c_region ?_
    refine s_ hf (r_move hf rfl) fun a hf => ?_
    refine s_ hf (r_add hf rfl rfl) fun a hf => ?_
    refine s_ hf (r_assign hf rfl) fun a hf => ?_
    refine c_nil ?_
    obtain rfl := Option.some.inj hF
    exact Rnd.goes ⟨_, hw, hf.sub ⟨rfl, rfl, rfl, rfl, rfl, rfl, rfl, trivial⟩, o1, o2, o3, o4, o5⟩
  rintro ⟨s14, s15⟩ a w hs ⟨ρ, hw, hf⟩
  subst hs
  have hF := hG13
  dsimp only at hF
  refine x_block <| n_then <| c_seq <| c_region ?_
  refine s_ hf (r_move hf rfl) fun a hf => ?_
  refine s_ hf (r_assign hf rfl) fun a hf => ?_
  refine c_nt <| c_retc ?_
  obtain rfl := Option.some.inj hF
  refine c_ret hf (res_tmp Try.results99 hf rfl) ?_
  exact ⟨_, rfl, hw.below, rfl⟩
/-! f148 -/
noncomputable def slices_Equal_148_l2 (a0 : List Prod) (a1 : List Prod) (s3 : Int) : Option (LR Int Bool) :=
  if (decide (s3 < (a0.length : Int))) = true then (if 0 ≤ s3 ∧ s3 < (a0.length : Int) then (if 0 ≤ s3 ∧ s3 < (a1.length : Int) then (if (decide ((gl zProd a0 s3) ≠ (gl zProd a1 s3))) = true then (some (.ret false)) else (some (.next (w64 (s3 + 1))))) else none) else none) else (some (.stop s3))
noncomputable def slices_Equal_148 (a0 : List Prod) (a1 : List Prod) : Option Bool :=
  if (decide ((a0.length : Int) ≠ (a1.length : Int))) = true then (some (false)) else ((iter (fun s => slices_Equal_148_l2 a0 a1 s) 0).bind fun o => match o with | .stop s3 => (some (true)) | .ret r => some r | .next _ => none)
theorem slices_Equal_148_ok {w0 : World} {a0 : List Prod} {a1 : List Prod} {va0 : Value} {va1 : Value} (h0 : Ro (kf cProd) w0 va0 a0) (h1 : Ro (kf cProd) w0 va1 a1) {r : Bool} (hF : slices_Equal_148 a0 a1 = some r) :
    Calls Try.prog 148 [va0, va1].toArray w0 fun e w => ∃ v, e = .returned v ∧ Below w0.heap.size w0 w ∧ .bool r = v := by
  refine calls_of (k := 26) Try.func148 rfl rfl (Nat.le_of_ble_eq_true rfl) fun a hf => ?_
  replace hf : Fr 26 a [(0, va0), (1, va1)] := hf
  refine c_start fun w ρ hw => ?_
  unfold slices_Equal_148 at hF
  refine c_seq <| c_region ?_
  refine s_ hf (r_assign hf rfl) fun a hf => ?_
  refine c_nt <| c_seq <| c_seq <| c_region ?_
  refine s_ hf (r_move hf rfl) fun a hf => ?_
  refine s_ hf (r_len Try.underlying37 (h0.now hw) hf rfl) fun a hf => ?_
  refine s_ hf (r_move hf rfl) fun a hf => ?_
  refine s_ hf (r_len Try.underlying37 (h1.now hw) hf rfl) fun a hf => ?_
  refine s_ hf (r_neq hf rfl rfl) fun a hf => ?_
  refine c_nt ?_
  rcases of_ite hF with ⟨hb1, hF⟩ | ⟨hb1, hF⟩
  · refine c_ift hf rfl hb1 <| c_seq <| c_region ?_
    refine s_ hf (r_assign hf rfl) fun a hf => ?_
    refine c_nt <| c_retc ?_
    obtain rfl := Option.some.inj hF
    refine r_then <| c_ret hf (res_tmp Try.results148 hf rfl) ?_
    exact ⟨_, rfl, hw.below, rfl⟩
  refine c_iff hf rfl hb1 <| c_skip <| n_then <| c_seq <| c_seq <| c_region ?_
  refine s_ hf (r_move hf rfl) fun a hf => ?_
  refine s_ hf (r_len Try.underlying37 (h0.now hw) hf rfl) fun a hf => ?_
  refine s_ hf (r_move hf rfl) fun a hf => ?_
  refine c_nt ?_
  obtain ⟨ol2, ho2, hG2⟩ := of_bind hF
  clear hF
  refine c_block (c_loop (id := 0) (fun s => slices_Equal_148_l2 a0 a1 s) (fun (s3 : Int) a w => ∃ ρ, Wd w0 ρ w ∧ Fr 26 a [(0, va0), (1, va1), (12, vI (a0.length : Int)), (13, vI s3)]) (fun (s3 : Int) a w => ∃ ρ, Wd w0 ρ w ∧ Fr 26 a []) ho2 ⟨_, hw, hf.sub ⟨rfl, rfl, rfl, rfl, trivial⟩⟩ ?_ ?_)
  · rintro s3 lr a w ⟨ρ, hw, hf⟩ hF
    replace hF : slices_Equal_148_l2 a0 a1 s3 = some lr := hF
    unfold slices_Equal_148_l2 at hF
    refine c_seq <| c_region ?_
    refine s_ hf (r_lss hf rfl rfl) fun a hf => ?_
    refine c_nt <| c_seq ?_
    rcases of_ite hF with ⟨hb4, hF⟩ | ⟨hb4, hF⟩
    rotate_left
    · refine c_iff hf rfl hb4 <| c_exit <| x_then ?_
      obtain rfl := Option.some.inj hF
      exact Rnd.stops ⟨_, hw, hf.sub trivial⟩
    refine c_ift hf rfl hb4 <| c_skip <| n_then <| c_seq <| c_block <| c_seq <| c_region ?_
    refine s_ hf (r_move hf rfl) fun a hf => ?_
    refine s_ hf (r_assign hf rfl) fun a hf => ?_
    refine c_nt <| c_seq ?_
    obtain ⟨hc5, hF⟩ := of_guard hF
    obtain ⟨ad6, c6, he6, hl6⟩ := Ro.el cProd h0 zProd hc5.1 hc5.2
    obtain ⟨hc7, hF⟩ := of_guard hF
    obtain ⟨ad8, c8, he8, hl8⟩ := Ro.el cProd h1 zProd hc7.1 hc7.2
    replace hf : Fr 26 a [(0, va0), (1, va1), (5, vI s3), (12, vI (a0.length : Int)), (13, vI s3)] := hf.sub ⟨rfl, rfl, rfl, rfl, rfl, trivial⟩
    refine c_drawL (h := 8) mixed (by kernel_rfl) (by kernel_rfl) (fun ρ w => True) ?_ [fun ρ w v => va0 = v, fun ρ w v => vI s3 = v, fun ρ w v => .pointer (some (ad6.add (s3.toNat * 27))) = v, fun ρ w v => .agg (cProd.enc (gl zProd a0 s3)).toArray = v, fun ρ w v => va1 = v, fun ρ w v => vI s3 = v, fun ρ w v => .pointer (some (ad8.add (s3.toNat * 27))) = v, fun ρ w v => .agg (cProd.enc (gl zProd a1 s3)).toArray = v] ?_ hw trivial hf ?_ ?_
    · intro ρ w ρ' w' hE hG
      skip
      exact trivial
    · exact LastsL.cons (fun _ _ _ _ _ _ h => h) <| LastsL.cons (fun _ _ _ _ _ _ h => h) <| LastsL.cons (fun _ _ _ _ _ _ h => h) <| LastsL.cons (fun _ _ _ _ _ _ h => h) <| LastsL.cons (fun _ _ _ _ _ _ h => h) <| LastsL.cons (fun _ _ _ _ _ _ h => h) <| LastsL.cons (fun _ _ _ _ _ _ h => h) <| LastsL.cons (fun _ _ _ _ _ _ h => h) <| LastsL.nil
    · refine StepsB.cons ?_ <| StepsB.cons ?_ <| StepsB.cons ?_ <| StepsB.cons ?_ <| StepsB.cons ?_ <| StepsB.cons ?_ <| StepsB.cons ?_ <| StepsB.cons ?_ <| StepsB.nil
      · intro ρ w a hw hG hf hd K hK
        exact dv_ hK hw (wn rfl) (r_move hf rfl) rfl
      · intro ρ w a hw hG hf hd K hK
        exact dv_ hK hw (wn rfl) (r_move hf rfl) rfl
      · intro ρ w a hw hG hf hd K hK
        obtain ⟨_, hf, rfl⟩ := got (hd 0 (by kernel_rfl)) hf
        obtain ⟨_, hf, rfl⟩ := got (hd 1 (by kernel_rfl)) hf
        exact dv_ hK hw (wn rfl) (r_idx Try.underlying37 sz82 hf rfl ⟨_, he6⟩ rfl hc5.1 hc5.2) rfl
      · intro ρ w a hw hG hf hd K hK
        obtain ⟨_, hf, rfl⟩ := got (hd 2 (by kernel_rfl)) hf
        exact dv_ hK hw (wn rfl) (r_load_agg ty82 hf rfl (hl6.below hw.below) (cProd.len _)) rfl
      · intro ρ w a hw hG hf hd K hK
        exact dv_ hK hw (wn rfl) (r_move hf rfl) rfl
      · intro ρ w a hw hG hf hd K hK
        exact dv_ hK hw (wn rfl) (r_move hf rfl) rfl
      · intro ρ w a hw hG hf hd K hK
        obtain ⟨_, hf, rfl⟩ := got (hd 4 (by kernel_rfl)) hf
        obtain ⟨_, hf, rfl⟩ := got (hd 5 (by kernel_rfl)) hf
        exact dv_ hK hw (wn rfl) (r_idx Try.underlying37 sz82 hf rfl ⟨_, he8⟩ rfl hc7.1 hc7.2) rfl
      · intro ρ w a hw hG hf hd K hK
        obtain ⟨_, hf, rfl⟩ := got (hd 6 (by kernel_rfl)) hf
        exact dv_ hK hw (wn rfl) (r_load_agg ty82 hf rfl (hl8.below hw.below) (cProd.len _)) rfl
    intro ρ w a hw hG hf hd
    obtain ⟨_, hf, rfl⟩ := got (hd 3 (by decide)) hf
    obtain ⟨_, hf, rfl⟩ := got (hd 7 (by decide)) hf
    refine s_ hf (r_ne (d := cProd) eq82 ⟨_, rfl⟩ gt82 hf rfl rfl) fun a hf => ?_
    refine c_nt ?_
    rcases of_ite hF with ⟨hb9, hF⟩ | ⟨hb9, hF⟩
    rotate_left
    · refine c_iff hf rfl hb9 <| c_skip <| n_block <| n_then <| c_region ?_
      refine s_ hf (r_add hf rfl rfl) fun a hf => ?_
      refine s_ hf (r_move hf rfl) fun a hf => ?_
      refine c_nil ?_
      obtain rfl := Option.some.inj hF
      exact Rnd.goes ⟨_, hw, hf.sub ⟨rfl, rfl, rfl, rfl, trivial⟩⟩
    refine c_ift hf rfl hb9 <| c_seq <| c_region ?_
    refine s_ hf (r_assign hf rfl) fun a hf => ?_
    refine c_nt <| c_retc ?_
    obtain rfl := Option.some.inj hF
    refine r_block <| r_then ?_
    refine Rnd.rets fun ho => ?_
    subst ho
    have hF := hG2
    dsimp only at hF
    obtain rfl := Option.some.inj hF
    refine r_block <| r_then <| c_ret hf (res_tmp Try.results148 hf rfl) ?_
    exact ⟨_, rfl, hw.below, rfl⟩
  rintro s3 a w hs ⟨ρ, hw, hf⟩
  subst hs
  have hF := hG2
  dsimp only at hF
  refine x_block <| n_then <| c_seq <| c_region ?_
  refine s_ hf (r_assign hf rfl) fun a hf => ?_
  refine c_nt <| c_retc ?_
  obtain rfl := Option.some.inj hF
  refine c_ret hf (res_tmp Try.results148 hf rfl) ?_
  exact ⟨_, rfl, hw.below, rfl⟩
/-! f102 -/
noncomputable def impl_countChanges_l29 (a0 : Sch) (x1 : Sch) (x5 : List (List (List Int))) (s11 : Int) (x15 : List (List (List Int))) (s21 : Int) (x25 : List (List (List Int))) (s30 : Int) (s31 : Int) : Option (LR (Int × Int) Int) :=
  if (decide (s31 < (x25.length : Int))) = true then (if 0 ≤ s31 ∧ s31 < (x25.length : Int) then ((impl_changed a0 (gl [] x5 s11) (gl [] x15 s21) (gl [] x25 s31)).bind fun x35 => (impl_sorted x35).bind fun x39 => (slices_Equal_148 x39.ps x1.ps).bind fun x43 => if x43 = true then (some (.next (w64 (s30 + 1), w64 (s31 + 1)))) else (some (.next (s30, w64 (s31 + 1))))) else none) else (some (.stop (s30, s31)))
noncomputable def impl_countChanges_l19 (a0 : Sch) (x1 : Sch) (x5 : List (List (List Int))) (s11 : Int) (x15 : List (List (List Int))) (s20 : Int) (s21 : Int) : Option (LR (Int × Int) Int) :=
  if (decide (s21 < (x15.length : Int))) = true then (if 0 ≤ s21 ∧ s21 < (x15.length : Int) then ((impl_invertibles a0.k).bind fun x25 => (iter (fun s => impl_countChanges_l29 a0 x1 x5 s11 x15 s21 x25 s.1 s.2) (s20, 0)).bind fun o => match o with | .stop (s30, s31) => (some (.next (s30, w64 (s21 + 1)))) | .ret r => some (.ret r) | .next _ => none) else none) else (some (.stop (s20, s21)))
noncomputable def impl_countChanges_l9 (a0 : Sch) (x1 : Sch) (x5 : List (List (List Int))) (s10 : Int) (s11 : Int) : Option (LR (Int × Int) Int) :=
  if (decide (s11 < (x5.length : Int))) = true then (if 0 ≤ s11 ∧ s11 < (x5.length : Int) then ((impl_invertibles a0.m).bind fun x15 => (iter (fun s => impl_countChanges_l19 a0 x1 x5 s11 x15 s.1 s.2) (s10, 0)).bind fun o => match o with | .stop (s20, s21) => (some (.next (s20, w64 (s11 + 1)))) | .ret r => some (.ret r) | .next _ => none) else none) else (some (.stop (s10, s11)))
noncomputable def impl_countChanges (a0 : Sch) (a1 : Sch) : Option Int :=
  (impl_sorted a1).bind fun x1 => (impl_invertibles a0.n).bind fun x5 => (iter (fun s => impl_countChanges_l9 a0 x1 x5 s.1 s.2) (0, 0)).bind fun o => match o with | .stop (s10, s11) => (some (s10)) | .ret r => some r | .next _ => none
theorem impl_countChanges_ok {w0 : World} {a0 : Sch} {a1 : Sch} {va0 : Value} {va1 : Value} (h0 : Ro (kf cProd) w0 va0 a0.ps) (h1 : Ro (kf cProd) w0 va1 a1.ps) {r : Int} (hF : impl_countChanges a0 a1 = some r) :
    Calls Try.prog 102 [.agg ([vI a0.p, vI a0.n, vI a0.m, vI a0.k, va0]).toArray, .agg ([vI a1.p, vI a1.n, vI a1.m, vI a1.k, va1]).toArray].toArray w0 fun e w => ∃ v, e = .returned v ∧ Below w0.heap.size w0 w ∧ .int .i64 r = v := by
  refine calls_of (k := 55) Try.func102 rfl rfl (Nat.le_of_ble_eq_true rfl) fun a hf => ?_
  replace hf : Fr 55 a [(0, .agg ([vI a0.p, vI a0.n, vI a0.m, vI a0.k, va0]).toArray), (1, .agg ([vI a1.p, vI a1.n, vI a1.m, vI a1.k, va1]).toArray)] := hf
  refine c_start fun w ρ hw => ?_
  unfold impl_countChanges at hF
  refine c_seq <| c_region ?_
  refine sx_ hf (r_box (cs := [vI a0.p, vI a0.n, vI a0.m, vI a0.k, va0]) 1 hw hf rfl rfl) fun a v w hf hΦ => ?_
  obtain ⟨g1, ρ, rfl, hw, hE, o1⟩ := hΦ
  refine sx_ hf (r_box (cs := [vI a1.p, vI a1.n, vI a1.m, vI a1.k, va1]) 2 hw hf rfl rfl) fun a v w hf hΦ => ?_
  obtain ⟨g2, ρ, rfl, hw, hE, o2⟩ := hΦ
  replace o1 := o1.ext hE
  refine s_ hf (r_assign hf rfl) fun a hf => ?_
  refine c_nt <| c_seq <| c_region ?_
  refine s_ hf (r_load_agg ty39 hf rfl o2.cl rfl) fun a hf => ?_
  obtain ⟨x1, hx2, hF⟩ := of_bind hF
  refine st_fn 3 hw hf rfl rfl (by decide) (r_fn en146 hf rfl) (impl_sorted_ok (a0 := a1) (h1.now hw) hx2) fun a v w ρ hf hw hE hN hΦ => ?_
  obtain ⟨u3, rfl, hr4⟩ := hΦ
  replace o1 := o1.ext hE
  replace o2 := o2.ext hE
  have o3 := hN hr4
  refine s_ hf (r_fieldc Try.underlying39 rfl ty37 hf rfl rfl) fun a hf => ?_
  refine s_ hf (r_assign hf rfl) fun a hf => ?_
  refine s_ hf (r_assign hf rfl) fun a hf => ?_
  refine c_nt <| c_seq <| c_seq <| c_region ?_
  refine s_ hf (r_fa fa39_1 hf rfl) fun a hf => ?_
  refine s_ hf (r_load_cell ty2 hf rfl (o1.cl.at_ 1 _ rfl)) fun a hf => ?_
  obtain ⟨x5, hx6, hF⟩ := of_bind hF
  refine st_fn 4 hw hf rfl rfl (by decide) (r_fn en147 hf rfl) (impl_invertibles_ok  hx6) fun a v w ρ hf hw hE hN hΦ => ?_
  obtain ⟨u7, rfl, hr8⟩ := hΦ
  replace o1 := o1.ext hE
  replace o2 := o2.ext hE
  replace o3 := o3.ext hE
  have o4 := hN hr8
  refine s_ hf (r_len Try.underlying100 o4.ro hf rfl) fun a hf => ?_
  refine s_ hf (r_move hf rfl) fun a hf => ?_
  refine c_nt ?_
  obtain ⟨ol9, ho9, hG9⟩ := of_bind hF
  clear hF
  refine c_block (c_loop (id := 0) (fun s => impl_countChanges_l9 a0 x1 x5 s.1 s.2) (fun (s : Int × Int) a w => match s with | (s10, s11) => ∃ ρ, Wd w0 ρ w ∧ Fr 55 a [(2, .pointer (some ((⟨g1, 0, none⟩ : Addr).add 0))), (5, u3), (6, vI s10), (18, u7), (19, vI (x5.length : Int)), (20, vI s11)] ∧ Va ρ w 1 g1 39 ([vI a0.p, vI a0.n, vI a0.m, vI a0.k, va0]) ∧ O82 ρ w w0 3 u3 x1.ps ∧ O24 ρ w w0 4 u7 x5) (fun (s : Int × Int) a w => match s with | (s10, s11) => ∃ ρ, Wd w0 ρ w ∧ Fr 55 a [(6, vI s10)]) ho9 ⟨_, hw, hf.sub ⟨rfl, rfl, rfl, rfl, rfl, rfl, trivial⟩, o1, o3, o4⟩ ?_ ?_)
  · rintro ⟨s10, s11⟩ lr a w ⟨ρ, hw, hf, o1, o3, o4⟩ hF
    replace hF : impl_countChanges_l9 a0 x1 x5 s10 s11 = some lr := hF
    unfold impl_countChanges_l9 at hF
    refine c_seq <| c_region ?_
    refine s_ hf (r_lss hf rfl rfl) fun a hf => ?_
    refine c_nt <| c_seq ?_
    rcases of_ite hF with ⟨hb12, hF⟩ | ⟨hb12, hF⟩
    rotate_left
    · refine c_iff hf rfl hb12 <| c_exit <| x_then ?_
      obtain rfl := Option.some.inj hF
      exact Rnd.stops ⟨_, hw, hf.sub ⟨rfl, trivial⟩⟩
    refine c_ift hf rfl hb12 <| c_skip <| n_then <| c_seq <| c_block <| c_seq <| c_region ?_
    obtain ⟨hc13, hF⟩ := of_guard hF
    obtain ⟨ad14, c14, u14, he14, hl14, ho14⟩ := Ro.el_row o4.ro hc13.1 hc13.2
    refine s_ hf (r_idx Try.underlying100 sz24 hf rfl ⟨_, he14⟩ rfl hc13.1 hc13.2) fun a hf => ?_
    refine s_ hf (r_load_cell ty24 hf rfl hl14) fun a hf => ?_
    refine s_ hf (r_assign hf rfl) fun a hf => ?_
    refine c_nt <| c_seq <| c_region ?_
    refine s_ hf (r_fa fa39_2 hf rfl) fun a hf => ?_
    refine s_ hf (r_load_cell ty2 hf rfl (o1.cl.at_ 2 _ rfl)) fun a hf => ?_
    obtain ⟨x15, hx16, hF⟩ := of_bind hF
    refine st_fn 7 hw hf rfl rfl (by decide) (r_fn en147 hf rfl) (impl_invertibles_ok  hx16) fun a v w ρ hf hw hE hN hΦ => ?_
    obtain ⟨u17, rfl, hr18⟩ := hΦ
    replace o1 := o1.ext hE
    replace o3 := o3.ext hE
    replace o4 := o4.ext hE
    replace ho14 := ho14.ext hE
    replace hl14 := hl14.ext hE
    have o7 := hN hr18
    refine s_ hf (r_len Try.underlying100 o7.ro hf rfl) fun a hf => ?_
    refine s_ hf (r_move hf rfl) fun a hf => ?_
    refine c_nt ?_
    obtain ⟨ol19, ho19, hG19⟩ := of_bind hF
    clear hF
    refine c_block (c_loop (id := 2) (fun s => impl_countChanges_l19 a0 x1 x5 s11 x15 s.1 s.2) (fun (s : Int × Int) a w => match s with | (s20, s21) => ∃ ρ, Wd w0 ρ w ∧ Fr 55 a [(2, .pointer (some ((⟨g1, 0, none⟩ : Addr).add 0))), (5, u3), (6, vI s20), (8, u14), (18, u7), (19, vI (x5.length : Int)), (20, vI s11), (26, u17), (27, vI (x15.length : Int)), (28, vI s21)] ∧ Va ρ w 1 g1 39 ([vI a0.p, vI a0.n, vI a0.m, vI a0.k, va0]) ∧ O82 ρ w w0 3 u3 x1.ps ∧ O24 ρ w w0 4 u7 x5 ∧ Ro (Kd.slice 2 (kf fI64)) w u14 (gl [] x5 s11) ∧ O24 ρ w w0 7 u17 x15) (fun (s : Int × Int) a w => match s with | (s20, s21) => ∃ ρ, Wd w0 ρ w ∧ Fr 55 a [(2, .pointer (some ((⟨g1, 0, none⟩ : Addr).add 0))), (5, u3), (6, vI s20), (18, u7), (19, vI (x5.length : Int)), (20, vI s11)] ∧ Va ρ w 1 g1 39 ([vI a0.p, vI a0.n, vI a0.m, vI a0.k, va0]) ∧ O82 ρ w w0 3 u3 x1.ps ∧ O24 ρ w w0 4 u7 x5) ho19 ⟨_, hw, hf.sub ⟨rfl, rfl, rfl, rfl, rfl, rfl, rfl, rfl, rfl, rfl, trivial⟩, o1, o3, o4, ho14, o7⟩ ?_ ?_)
    · rintro ⟨s20, s21⟩ lr a w ⟨ρ, hw, hf, o1, o3, o4, ho14, o7⟩ hF
      replace hF : impl_countChanges_l19 a0 x1 x5 s11 x15 s20 s21 = some lr := hF
      unfold impl_countChanges_l19 at hF
      refine c_seq <| c_region ?_
      refine s_ hf (r_lss hf rfl rfl) fun a hf => ?_
      refine c_nt <| c_seq ?_
      rcases of_ite hF with ⟨hb22, hF⟩ | ⟨hb22, hF⟩
      rotate_left
      · refine c_iff hf rfl hb22 <| c_exit <| x_then ?_
        obtain rfl := Option.some.inj hF
        exact Rnd.stops ⟨_, hw, hf.sub ⟨rfl, rfl, rfl, rfl, rfl, rfl, trivial⟩, o1, o3, o4⟩
      refine c_ift hf rfl hb22 <| c_skip <| n_then <| c_seq <| c_block <| c_seq <| c_region ?_
      obtain ⟨hc23, hF⟩ := of_guard hF
      obtain ⟨ad24, c24, u24, he24, hl24, ho24⟩ := Ro.el_row o7.ro hc23.1 hc23.2
      refine s_ hf (r_idx Try.underlying100 sz24 hf rfl ⟨_, he24⟩ rfl hc23.1 hc23.2) fun a hf => ?_
      refine s_ hf (r_load_cell ty24 hf rfl hl24) fun a hf => ?_
      refine s_ hf (r_assign hf rfl) fun a hf => ?_
      refine c_nt <| c_seq <| c_region ?_
      refine s_ hf (r_fa fa39_3 hf rfl) fun a hf => ?_
      refine s_ hf (r_load_cell ty2 hf rfl (o1.cl.at_ 3 _ rfl)) fun a hf => ?_
      obtain ⟨x25, hx26, hF⟩ := of_bind hF
      refine st_fn 10 hw hf rfl rfl (by decide) (r_fn en147 hf rfl) (impl_invertibles_ok  hx26) fun a v w ρ hf hw hE hN hΦ => ?_
      obtain ⟨u27, rfl, hr28⟩ := hΦ
      replace o1 := o1.ext hE
      replace o3 := o3.ext hE
      replace o4 := o4.ext hE
      replace ho14 := ho14.ext hE
      replace o7 := o7.ext hE
      replace ho24 := ho24.ext hE
      replace hl24 := hl24.ext hE
      have o10 := hN hr28
      refine s_ hf (r_len Try.underlying100 o10.ro hf rfl) fun a hf => ?_
      refine s_ hf (r_move hf rfl) fun a hf => ?_
      refine c_nt ?_
      obtain ⟨ol29, ho29, hG29⟩ := of_bind hF
      clear hF
      refine c_block (c_loop (id := 4) (fun s => impl_countChanges_l29 a0 x1 x5 s11 x15 s21 x25 s.1 s.2) (fun (s : Int × Int) a w => match s with | (s30, s31) => ∃ ρ, Wd w0 ρ w ∧ Fr 55 a [(2, .pointer (some ((⟨g1, 0, none⟩ : Addr).add 0))), (5, u3), (6, vI s30), (8, u14), (10, u24), (18, u7), (19, vI (x5.length : Int)), (20, vI s11), (26, u17), (27, vI (x15.length : Int)), (28, vI s21), (34, u27), (35, vI (x25.length : Int)), (36, vI s31)] ∧ Va ρ w 1 g1 39 ([vI a0.p, vI a0.n, vI a0.m, vI a0.k, va0]) ∧ O82 ρ w w0 3 u3 x1.ps ∧ O24 ρ w w0 4 u7 x5 ∧ Ro (Kd.slice 2 (kf fI64)) w u14 (gl [] x5 s11) ∧ O24 ρ w w0 7 u17 x15 ∧ Ro (Kd.slice 2 (kf fI64)) w u24 (gl [] x15 s21) ∧ O24 ρ w w0 10 u27 x25) (fun (s : Int × Int) a w => match s with | (s30, s31) => ∃ ρ, Wd w0 ρ w ∧ Fr 55 a [(2, .pointer (some ((⟨g1, 0, none⟩ : Addr).add 0))), (5, u3), (6, vI s30), (8, u14), (18, u7), (19, vI (x5.length : Int)), (20, vI s11), (26, u17), (27, vI (x15.length : Int)), (28, vI s21)] ∧ Va ρ w 1 g1 39 ([vI a0.p, vI a0.n, vI a0.m, vI a0.k, va0]) ∧ O82 ρ w w0 3 u3 x1.ps ∧ O24 ρ w w0 4 u7 x5 ∧ Ro (Kd.slice 2 (kf fI64)) w u14 (gl [] x5 s11) ∧ O24 ρ w w0 7 u17 x15) ho29 ⟨_, hw, hf.sub ⟨rfl, rfl, rfl, rfl, rfl, rfl, rfl, rfl, rfl, rfl, rfl, rfl, rfl, rfl, trivial⟩, o1, o3, o4, ho14, o7, ho24, o10⟩ ?_ ?_)
      · rintro ⟨s30, s31⟩ lr a w ⟨ρ, hw, hf, o1, o3, o4, ho14, o7, ho24, o10⟩ hF
        replace hF : impl_countChanges_l29 a0 x1 x5 s11 x15 s21 x25 s30 s31 = some lr := hF
        unfold impl_countChanges_l29 at hF
        refine c_seq <| c_region ?_
        refine s_ hf (r_lss hf rfl rfl) fun a hf => ?_
        refine c_nt <| c_seq ?_
        rcases of_ite hF with ⟨hb32, hF⟩ | ⟨hb32, hF⟩
        rotate_left
        · refine c_iff hf rfl hb32 <| c_exit <| x_then ?_
          obtain rfl := Option.some.inj hF
          exact Rnd.stops ⟨_, hw, hf.sub ⟨rfl, rfl, rfl, rfl, rfl, rfl, rfl, rfl, rfl, rfl, trivial⟩, o1, o3, o4, ho14, o7⟩
        refine c_ift hf rfl hb32 <| c_skip <| n_then <| c_seq <| c_block <| c_seq <| c_region ?_
        obtain ⟨hc33, hF⟩ := of_guard hF
        obtain ⟨ad34, c34, u34, he34, hl34, ho34⟩ := Ro.el_row o10.ro hc33.1 hc33.2
        refine s_ hf (r_idx Try.underlying100 sz24 hf rfl ⟨_, he34⟩ rfl hc33.1 hc33.2) fun a hf => ?_
        refine s_ hf (r_load_cell ty24 hf rfl hl34) fun a hf => ?_
        refine s_ hf (r_assign hf rfl) fun a hf => ?_
        refine c_nt <| c_seq <| c_region ?_
        refine s_ hf (r_load_agg ty39 hf rfl o1.cl rfl) fun a hf => ?_
        refine s_ hf (r_move hf rfl) fun a hf => ?_
        refine s_ hf (r_move hf rfl) fun a hf => ?_
        refine s_ hf (r_move hf rfl) fun a hf => ?_
        obtain ⟨x35, hx36, hF⟩ := of_bind hF
        refine st_fn 13 hw hf rfl rfl (by decide) (r_fn en96 hf rfl) (impl_changed_ok (a0 := a0) (h0.now hw) ho14 ho24 ho34 hx36) fun a v w ρ hf hw hE hN hΦ => ?_
        obtain ⟨u37, rfl, hr38⟩ := hΦ
        replace o1 := o1.ext hE
        replace o3 := o3.ext hE
        replace o4 := o4.ext hE
        replace ho14 := ho14.ext hE
        replace o7 := o7.ext hE
        replace ho24 := ho24.ext hE
        replace o10 := o10.ext hE
        replace ho34 := ho34.ext hE
        replace hl34 := hl34.ext hE
        have o13 := hN hr38
        obtain ⟨x39, hx40, hF⟩ := of_bind hF
        refine st_fn 14 hw hf rfl rfl (by decide) (r_fn en146 hf rfl) (impl_sorted_ok (a0 := x35) o13.ro hx40) fun a v w ρ hf hw hE hN hΦ => ?_
        obtain ⟨u41, rfl, hr42⟩ := hΦ
        replace o1 := o1.ext hE
        replace o3 := o3.ext hE
        replace o4 := o4.ext hE
        replace ho14 := ho14.ext hE
        replace o7 := o7.ext hE
        replace ho24 := ho24.ext hE
        replace o10 := o10.ext hE
        replace ho34 := ho34.ext hE
        replace hl34 := hl34.ext hE
        replace o13 := o13.ext hE
        have o14 := hN hr42
        refine s_ hf (r_fieldc Try.underlying39 rfl ty37 hf rfl rfl) fun a hf => ?_
        refine s_ hf (r_move hf rfl) fun a hf => ?_
        obtain ⟨x43, hx44, hF⟩ := of_bind hF
        refine st_fn 15 hw hf rfl rfl (by decide) (r_fn en148 hf rfl) (slices_Equal_148_ok o14.ro o3.ro hx44) fun a v w ρ hf hw hE hN hΦ => ?_
        obtain rfl := hΦ
        replace o1 := o1.ext hE
        replace o3 := o3.ext hE
        replace o4 := o4.ext hE
        replace ho14 := ho14.ext hE
        replace o7 := o7.ext hE
        replace ho24 := ho24.ext hE
        replace o10 := o10.ext hE
        replace ho34 := ho34.ext hE
        replace hl34 := hl34.ext hE
        replace o13 := o13.ext hE
        replace o14 := o14.ext hE
        refine c_nt ?_
        rcases of_ite hF with ⟨hb45, hF⟩ | ⟨hb45, hF⟩
        rotate_left
        · refine c_iff hf rfl hb45 <| c_skip <| n_block <| n_then <| c_region ?_
          refine s_ hf (r_add hf rfl rfl) fun a hf => ?_
          refine s_ hf (r_move hf rfl) fun a hf => ?_
          refine c_nil ?_
          obtain rfl := Option.some.inj hF
          exact Rnd.goes ⟨_, hw, hf.sub ⟨rfl, rfl, rfl, rfl, rfl, rfl, rfl, rfl, rfl, rfl, rfl, rfl, rfl, rfl, trivial⟩, o1, o3, o4, ho14, o7, ho24, o10⟩
        refine c_ift hf rfl hb45 <| c_region ?_
        refine s_ hf (r_move hf rfl) fun a hf => ?_
        refine s_ hf (r_add hf rfl rfl) fun a hf => ?_
        refine s_ hf (r_assign hf rfl) fun a hf => ?_
        refine c_nil <| n_block <| n_then <| c_region ?_
        refine s_ hf (r_add hf rfl rfl) fun a hf => ?_
        refine s_ hf (r_move hf rfl) fun a hf => ?_
        refine c_nil ?_
        obtain rfl := Option.some.inj hF
        exact Rnd.goes ⟨_, hw, hf.sub ⟨rfl, rfl, rfl, rfl, rfl, rfl, rfl, rfl, rfl, rfl, rfl, rfl, rfl, rfl, trivial⟩, o1, o3, o4, ho14, o7, ho24, o10⟩
      rintro ⟨s30, s31⟩ a w hs ⟨ρ, hw, hf, o1, o3, o4, ho14, o7⟩
      subst hs
      have hF := hG29
      dsimp only at hF
      refine x_block <| n_block <| n_then <| c_region ?_
      refine s_ hf (r_add hf rfl rfl) fun a hf => ?_
      refine s_ hf (r_move hf rfl) fun a hf => ?_
      refine c_nil ?_
      obtain rfl := Option.some.inj hF
      exact Rnd.goes ⟨_, hw, hf.sub ⟨rfl, rfl, rfl, rfl, rfl, rfl, rfl, rfl, rfl, rfl, trivial⟩, o1, o3, o4, ho14, o7⟩
    rintro ⟨s20, s21⟩ a w hs ⟨ρ, hw, hf, o1, o3, o4⟩
    subst hs
    have hF := hG19
    dsimp only at hF
    refine x_block <| n_block <| n_then <| c_region ?_
    refine s_ hf (r_add hf rfl rfl) fun a hf => ?_
    refine s_ hf (r_move hf rfl) fun a hf => ?_
    refine c_nil ?_
    obtain rfl := Option.some.inj hF
    exact Rnd.goes ⟨_, hw, hf.sub ⟨rfl, rfl, rfl, rfl, rfl, rfl, trivial⟩, o1, o3, o4⟩
  rintro ⟨s10, s11⟩ a w hs ⟨ρ, hw, hf⟩
  subst hs
  have hF := hG9
  dsimp only at hF
  refine x_block <| n_then <| c_seq <| c_region ?_
  refine s_ hf (r_move hf rfl) fun a hf => ?_
  refine s_ hf (r_assign hf rfl) fun a hf => ?_
  refine c_nt <| c_retc ?_
  obtain rfl := Option.some.inj hF
  refine c_ret hf (res_tmp Try.results102 hf rfl) ?_
  exact ⟨_, rfl, hw.below, rfl⟩
/-! f98 -/
noncomputable def spec_l04Small (a0 : Sch) : Option Bool :=
  (if (decide (a0.p = 2)) = true then (if (decide (a0.n < 3)) = true then (if (decide (a0.m < 3)) = true then (some (decide (a0.k < 3))) else (some false)) else (some false)) else (some false)).bind fun (s2 : Bool) => some (s2)
theorem spec_l04Small_ok {w0 : World} {a0 : Sch} {va0 : Value} (h0 : Ro (kf cProd) w0 va0 a0.ps) {r : Bool} (hF : spec_l04Small a0 = some r) :
    Calls Try.prog 98 [.agg ([vI a0.p, vI a0.n, vI a0.m, vI a0.k, va0]).toArray].toArray w0 fun e w => ∃ v, e = .returned v ∧ Below w0.heap.size w0 w ∧ .bool r = v := by
  refine calls_of (k := 21) Try.func98 rfl rfl (Nat.le_of_ble_eq_true rfl) fun a hf => ?_
  replace hf : Fr 21 a [(0, .agg ([vI a0.p, vI a0.n, vI a0.m, vI a0.k, va0]).toArray)] := hf
  refine c_start fun w ρ hw => ?_
  unfold spec_l04Small at hF
  refine c_seq <| c_region ?_
  refine sx_ hf (r_box (cs := [vI a0.p, vI a0.n, vI a0.m, vI a0.k, va0]) 1 hw hf rfl rfl) fun a v w hf hΦ => ?_
  obtain ⟨g1, ρ, rfl, hw, hE, o1⟩ := hΦ
  refine s_ hf (r_assign hf rfl) fun a hf => ?_
  refine c_nt <| c_seq ?_
  obtain ⟨s2, hT1, hG1⟩ := of_bind hF
  clear hF
  refine c_meet (fun (s2 : Bool) a w => ∃ ρ, Wd w0 ρ w ∧ Fr 21 a [(2, .bool s2)]) s2 ?_ ?_
  · have hF := hT1
    refine c_region ?_
    refine s_ hf (r_fa fa39_0 hf rfl) fun a hf => ?_
    refine s_ hf (r_load_cell ty2 hf rfl (o1.cl.at_ 0 _ rfl)) fun a hf => ?_
    refine s_ hf (r_eql hf rfl rfl) fun a hf => ?_
    refine s_ hf (r_move hf rfl) fun a hf => ?_
    rcases of_ite hF with ⟨hb3, hF⟩ | ⟨hb3, hF⟩
    rotate_left
    · refine st_no (b := false) hf rfl rfl rfl hb3 rfl (by decide) fun a hf => ?_
      refine st_no (b := false) hf rfl rfl rfl hb3 rfl (by decide) fun a hf => ?_
      refine st_no (b := false) hf rfl rfl rfl hb3 rfl (by decide) fun a hf => ?_
      refine s_ hf (r_pick (b := false) hf rfl hb3 rfl) fun a hf => ?_
      refine s_ hf (r_move hf rfl) fun a hf => ?_
      refine st_no (b := false) hf rfl rfl rfl rfl rfl (by decide) fun a hf => ?_
      refine st_no (b := false) hf rfl rfl rfl rfl rfl (by decide) fun a hf => ?_
      refine st_no (b := false) hf rfl rfl rfl rfl rfl (by decide) fun a hf => ?_
      refine s_ hf (r_pick (b := false) hf rfl rfl rfl) fun a hf => ?_
      refine s_ hf (r_move hf rfl) fun a hf => ?_
      refine st_no (b := false) hf rfl rfl rfl rfl rfl (by decide) fun a hf => ?_
      refine st_no (b := false) hf rfl rfl rfl rfl rfl (by decide) fun a hf => ?_
      refine st_no (b := false) hf rfl rfl rfl rfl rfl (by decide) fun a hf => ?_
      refine s_ hf (r_pick (b := false) hf rfl rfl rfl) fun a hf => ?_
      refine s_ hf (r_assign hf rfl) fun a hf => ?_
      refine c_nil ⟨rfl, ?_⟩
      obtain rfl := Option.some.inj hF
      exact ⟨_, hw, hf.sub ⟨rfl, trivial⟩⟩
    refine st_g (b := true) hf rfl rfl rfl hb3 rfl (by decide) (r_fa fa39_1 hf rfl) fun a hf => ?_
    refine st_g (b := true) hf rfl rfl rfl hb3 rfl (by decide) (r_load_cell ty2 hf rfl (o1.cl.at_ 1 _ rfl)) fun a hf => ?_
    refine st_g (b := true) hf rfl rfl rfl hb3 rfl (by decide) (r_lss hf rfl rfl) fun a hf => ?_
    refine s_ hf (r_pick (b := true) hf rfl hb3 rfl) fun a hf => ?_
    refine s_ hf (r_move hf rfl) fun a hf => ?_
    rcases of_ite hF with ⟨hb4, hF⟩ | ⟨hb4, hF⟩
    rotate_left
    · refine st_no (b := false) hf rfl rfl rfl hb4 rfl (by decide) fun a hf => ?_
      refine st_no (b := false) hf rfl rfl rfl hb4 rfl (by decide) fun a hf => ?_
      refine st_no (b := false) hf rfl rfl rfl hb4 rfl (by decide) fun a hf => ?_
      refine s_ hf (r_pick (b := false) hf rfl hb4 rfl) fun a hf => ?_
      refine s_ hf (r_move hf rfl) fun a hf => ?_
      refine st_no (b := false) hf rfl rfl rfl rfl rfl (by decide) fun a hf => ?_
      refine st_no (b := false) hf rfl rfl rfl rfl rfl (by decide) fun a hf => ?_
      refine st_no (b := false) hf rfl rfl rfl rfl rfl (by decide) fun a hf => ?_
      refine s_ hf (r_pick (b := false) hf rfl rfl rfl) fun a hf => ?_
      refine s_ hf (r_assign hf rfl) fun a hf => ?_
      refine c_nil ⟨rfl, ?_⟩
      obtain rfl := Option.some.inj hF
      exact ⟨_, hw, hf.sub ⟨rfl, trivial⟩⟩
    refine st_g (b := true) hf rfl rfl rfl hb4 rfl (by decide) (r_fa fa39_2 hf rfl) fun a hf => ?_
    refine st_g (b := true) hf rfl rfl rfl hb4 rfl (by decide) (r_load_cell ty2 hf rfl (o1.cl.at_ 2 _ rfl)) fun a hf => ?_
    refine st_g (b := true) hf rfl rfl rfl hb4 rfl (by decide) (r_lss hf rfl rfl) fun a hf => ?_
    refine s_ hf (r_pick (b := true) hf rfl hb4 rfl) fun a hf => ?_
    refine s_ hf (r_move hf rfl) fun a hf => ?_
    rcases of_ite hF with ⟨hb5, hF⟩ | ⟨hb5, hF⟩
    rotate_left
    · refine st_no (b := false) hf rfl rfl rfl hb5 rfl (by decide) fun a hf => ?_
      refine st_no (b := false) hf rfl rfl rfl hb5 rfl (by decide) fun a hf => ?_
      refine st_no (b := false) hf rfl rfl rfl hb5 rfl (by decide) fun a hf => ?_
      refine s_ hf (r_pick (b := false) hf rfl hb5 rfl) fun a hf => ?_
      refine s_ hf (r_assign hf rfl) fun a hf => ?_
      refine c_nil ⟨rfl, ?_⟩
      obtain rfl := Option.some.inj hF
      exact ⟨_, hw, hf.sub ⟨rfl, trivial⟩⟩
    refine st_g (b := true) hf rfl rfl rfl hb5 rfl (by decide) (r_fa fa39_3 hf rfl) fun a hf => ?_
    refine st_g (b := true) hf rfl rfl rfl hb5 rfl (by decide) (r_load_cell ty2 hf rfl (o1.cl.at_ 3 _ rfl)) fun a hf => ?_
    refine st_g (b := true) hf rfl rfl rfl hb5 rfl (by decide) (r_lss hf rfl rfl) fun a hf => ?_
    refine s_ hf (r_pick (b := true) hf rfl hb5 rfl) fun a hf => ?_
    refine s_ hf (r_assign hf rfl) fun a hf => ?_
    refine c_nil ⟨rfl, ?_⟩
    obtain rfl := Option.some.inj hF
    exact ⟨_, hw, hf.sub ⟨rfl, trivial⟩⟩
  rintro a w ⟨ρ, hw, hf⟩
  have hF := hG1
  refine n_then <| c_retc ?_
  obtain rfl := Option.some.inj hF
  refine c_ret hf (res_tmp Try.results98 hf rfl) ?_
  exact ⟨_, rfl, hw.below, rfl⟩
/-! f101 -/
noncomputable def impl_isSmall (a0 : Sch) : Option Bool :=
  (if (decide (a0.p = 2)) = true then (some (decide ((max3 a0.n a0.m a0.k) ≤ 2))) else (some false)).bind fun (s2 : Bool) => some (s2)
theorem impl_isSmall_ok {w0 : World} {a0 : Sch} {va0 : Value} (h0 : Ro (kf cProd) w0 va0 a0.ps) {r : Bool} (hF : impl_isSmall a0 = some r) :
    Calls Try.prog 101 [.agg ([vI a0.p, vI a0.n, vI a0.m, vI a0.k, va0]).toArray].toArray w0 fun e w => ∃ v, e = .returned v ∧ Below w0.heap.size w0 w ∧ .bool r = v := by
  refine calls_of (k := 16) Try.func101 rfl rfl (Nat.le_of_ble_eq_true rfl) fun a hf => ?_
  replace hf : Fr 16 a [(0, .agg ([vI a0.p, vI a0.n, vI a0.m, vI a0.k, va0]).toArray)] := hf
  refine c_start fun w ρ hw => ?_
  unfold impl_isSmall at hF
  refine c_seq <| c_region ?_
  refine sx_ hf (r_box (cs := [vI a0.p, vI a0.n, vI a0.m, vI a0.k, va0]) 1 hw hf rfl rfl) fun a v w hf hΦ => ?_
  obtain ⟨g1, ρ, rfl, hw, hE, o1⟩ := hΦ
  refine s_ hf (r_assign hf rfl) fun a hf => ?_
  refine c_nt <| c_seq ?_
  obtain ⟨s2, hT1, hG1⟩ := of_bind hF
  clear hF
  refine c_meet (fun (s2 : Bool) a w => ∃ ρ, Wd w0 ρ w ∧ Fr 16 a [(2, .bool s2)]) s2 ?_ ?_
  · have hF := hT1
    refine c_region ?_
    refine s_ hf (r_fa fa39_0 hf rfl) fun a hf => ?_
    refine s_ hf (r_load_cell ty2 hf rfl (o1.cl.at_ 0 _ rfl)) fun a hf => ?_
    refine s_ hf (r_eql hf rfl rfl) fun a hf => ?_
    refine s_ hf (r_move hf rfl) fun a hf => ?_
    rcases of_ite hF with ⟨hb3, hF⟩ | ⟨hb3, hF⟩
    rotate_left
    · refine st_no (b := false) hf rfl rfl rfl hb3 rfl (by decide) fun a hf => ?_
      refine st_no (b := false) hf rfl rfl rfl hb3 rfl (by decide) fun a hf => ?_
      refine st_no (b := false) hf rfl rfl rfl hb3 rfl (by decide) fun a hf => ?_
      refine st_no (b := false) hf rfl rfl rfl hb3 rfl (by decide) fun a hf => ?_
      refine st_no (b := false) hf rfl rfl rfl hb3 rfl (by decide) fun a hf => ?_
      refine st_no (b := false) hf rfl rfl rfl hb3 rfl (by decide) fun a hf => ?_
      refine st_no (b := false) hf rfl rfl rfl hb3 rfl (by decide) fun a hf => ?_
      refine st_no (b := false) hf rfl rfl rfl hb3 rfl (by decide) fun a hf => ?_
      refine s_ hf (r_pick (b := false) hf rfl hb3 rfl) fun a hf => ?_
      refine s_ hf (r_assign hf rfl) fun a hf => ?_
      refine c_nil ⟨rfl, ?_⟩
      obtain rfl := Option.some.inj hF
      exact ⟨_, hw, hf.sub ⟨rfl, trivial⟩⟩
    refine st_g (b := true) hf rfl rfl rfl hb3 rfl (by decide) (r_fa fa39_1 hf rfl) fun a hf => ?_
    refine st_g (b := true) hf rfl rfl rfl hb3 rfl (by decide) (r_load_cell ty2 hf rfl (o1.cl.at_ 1 _ rfl)) fun a hf => ?_
    refine st_g (b := true) hf rfl rfl rfl hb3 rfl (by decide) (r_fa fa39_2 hf rfl) fun a hf => ?_
    refine st_g (b := true) hf rfl rfl rfl hb3 rfl (by decide) (r_load_cell ty2 hf rfl (o1.cl.at_ 2 _ rfl)) fun a hf => ?_
    refine st_g (b := true) hf rfl rfl rfl hb3 rfl (by decide) (r_fa fa39_3 hf rfl) fun a hf => ?_
    refine st_g (b := true) hf rfl rfl rfl hb3 rfl (by decide) (r_load_cell ty2 hf rfl (o1.cl.at_ 3 _ rfl)) fun a hf => ?_
    refine st_g (b := true) hf rfl rfl rfl hb3 rfl (by decide) (r_max3 hf rfl rfl rfl) fun a hf => ?_
    refine st_g (b := true) hf rfl rfl rfl hb3 rfl (by decide) (r_leq hf rfl rfl) fun a hf => ?_
    refine s_ hf (r_pick (b := true) hf rfl hb3 rfl) fun a hf => ?_
    refine s_ hf (r_assign hf rfl) fun a hf => ?_
    refine c_nil ⟨rfl, ?_⟩
    obtain rfl := Option.some.inj hF
    exact ⟨_, hw, hf.sub ⟨rfl, trivial⟩⟩
  rintro a w ⟨ρ, hw, hf⟩
  have hF := hG1
  refine n_then <| c_retc ?_
  obtain rfl := Option.some.inj hF
  refine c_ret hf (res_tmp Try.results101 hf rfl) ?_
  exact ⟨_, rfl, hw.below, rfl⟩
/-! f50 -/
noncomputable def spec_AreEquivalent (a0 : Sch) (a1 : Sch) : Option (Bool × Int) :=
  ((spec_l01Is a0).bind fun x3 => if (!x3) = true then (some true) else ((spec_l01Is a1).bind fun x6 => some (!x6))).bind fun (s2 : Bool) => if s2 = true then (some ((false, 1))) else (((spec_l04Small a0).bind fun x11 => if (!x11) = true then (some true) else ((spec_l04Small a1).bind fun x14 => if (!x14) = true then (some true) else (if (decide (a0.n ≠ a1.n)) = true then (some true) else (if (decide (a0.m ≠ a1.m)) = true then (some true) else (some (decide (a0.k ≠ a1.k))))))).bind fun (s10 : Bool) => if s10 = true then (some ((false, 2))) else (if (decide ((a0.ps.length : Int) ≠ (a1.ps.length : Int))) = true then (some ((false, 0))) else ((spec_l01Sorted a1).bind fun x21 => (spec_l04Count a0 x21).bind fun x25 => some ((decide (0 < x25), 0)))))
theorem spec_AreEquivalent_ok {w0 : World} {a0 : Sch} {a1 : Sch} {va0 : Value} {va1 : Value} (h0 : Ro (kf cProd) w0 va0 a0.ps) (h1 : Ro (kf cProd) w0 va1 a1.ps) {r : Bool × Int} (hF : spec_AreEquivalent a0 a1 = some r) :
    Calls Try.prog 50 [.agg ([vI a0.p, vI a0.n, vI a0.m, vI a0.k, va0]).toArray, .agg ([vI a1.p, vI a1.n, vI a1.m, vI a1.k, va1]).toArray].toArray w0 fun e w => ∃ v, e = .returned v ∧ Below w0.heap.size w0 w ∧ .tuple #[.bool r.1, .int .i64 r.2] = v := by
  refine calls_of (k := 58) Try.func50 rfl rfl (Nat.le_of_ble_eq_true rfl) fun a hf => ?_
  replace hf : Fr 58 a [(0, .agg ([vI a0.p, vI a0.n, vI a0.m, vI a0.k, va0]).toArray), (1, .agg ([vI a1.p, vI a1.n, vI a1.m, vI a1.k, va1]).toArray)] := hf
  refine c_start fun w ρ hw => ?_
  unfold spec_AreEquivalent at hF
  refine c_seq <| c_region ?_
  refine sx_ hf (r_box (cs := [vI a0.p, vI a0.n, vI a0.m, vI a0.k, va0]) 1 hw hf rfl rfl) fun a v w hf hΦ => ?_
  obtain ⟨g1, ρ, rfl, hw, hE, o1⟩ := hΦ
  refine sx_ hf (r_box (cs := [vI a1.p, vI a1.n, vI a1.m, vI a1.k, va1]) 2 hw hf rfl rfl) fun a v w hf hΦ => ?_
  obtain ⟨g2, ρ, rfl, hw, hE, o2⟩ := hΦ
  replace o1 := o1.ext hE
  refine s_ hf (r_assign hf rfl) fun a hf => ?_
  refine s_ hf (r_assign hf rfl) fun a hf => ?_
  refine c_nt <| c_seq <| c_block <| c_seq ?_
  obtain ⟨s2, hT1, hG1⟩ := of_bind hF
  clear hF
  refine c_meet (fun (s2 : Bool) a w => ∃ ρ, Wd w0 ρ w ∧ Fr 58 a [(2, .pointer (some ((⟨g1, 0, none⟩ : Addr).add 0))), (3, .pointer (some ((⟨g2, 0, none⟩ : Addr).add 0))), (6, .bool s2)] ∧ Va ρ w 1 g1 39 ([vI a0.p, vI a0.n, vI a0.m, vI a0.k, va0]) ∧ Va ρ w 2 g2 39 ([vI a1.p, vI a1.n, vI a1.m, vI a1.k, va1])) s2 ?_ ?_
  · have hF := hT1
    refine c_region ?_
    refine s_ hf (r_load_agg ty39 hf rfl o1.cl rfl) fun a hf => ?_
    obtain ⟨x3, hx4, hF⟩ := of_bind hF
    refine st_fn 3 hw hf rfl rfl (by decide) (r_fn en77 hf rfl) (spec_l01Is_ok (a0 := a0) (h0.now hw) hx4) fun a v w ρ hf hw hE hN hΦ => ?_
    obtain rfl := hΦ
    replace o1 := o1.ext hE
    replace o2 := o2.ext hE
    refine s_ hf (r_not hf rfl) fun a hf => ?_
    refine s_ hf (r_move hf rfl) fun a hf => ?_
    rcases of_ite hF with ⟨hb5, hF⟩ | ⟨hb5, hF⟩
    · refine st_no (b := true) hf rfl rfl rfl hb5 rfl (by decide) fun a hf => ?_
      refine st_no (b := true) hf rfl rfl rfl hb5 rfl (by decide) fun a hf => ?_
      refine st_no (b := true) hf rfl rfl rfl hb5 rfl (by decide) fun a hf => ?_
      refine s_ hf (r_pick (b := true) hf rfl hb5 rfl) fun a hf => ?_
      refine s_ hf (r_assign hf rfl) fun a hf => ?_
      refine c_nil ⟨rfl, ?_⟩
      obtain rfl := Option.some.inj hF
      exact ⟨_, hw, hf.sub ⟨rfl, rfl, rfl, trivial⟩, o1, o2⟩
    refine st_g (b := false) hf rfl rfl rfl hb5 rfl (by decide) (r_load_agg ty39 hf rfl o2.cl rfl) fun a hf => ?_
    obtain ⟨x6, hx7, hF⟩ := of_bind hF
    refine st_gfn (b := false) 4 hw hf rfl rfl rfl hb5 rfl (by decide) (r_fn en77 hf rfl) (spec_l01Is_ok (a0 := a1) (h1.now hw) hx7) fun a v w ρ hf hw hE hN hΦ => ?_
    obtain rfl := hΦ
    replace o1 := o1.ext hE
    replace o2 := o2.ext hE
    refine st_g (b := false) hf rfl rfl rfl hb5 rfl (by decide) (r_not hf rfl) fun a hf => ?_
    refine s_ hf (r_pick (b := false) hf rfl hb5 rfl) fun a hf => ?_
    refine s_ hf (r_assign hf rfl) fun a hf => ?_
    refine c_nil ⟨rfl, ?_⟩
    obtain rfl := Option.some.inj hF
    exact ⟨_, hw, hf.sub ⟨rfl, rfl, rfl, trivial⟩, o1, o2⟩
  rintro a w ⟨ρ, hw, hf, o1, o2⟩
  have hF := hG1
  refine n_then ?_
  rcases of_ite hF with ⟨hb8, hF⟩ | ⟨hb8, hF⟩
  · refine c_ift hf rfl hb8 <| c_seq <| c_region ?_
    refine s_ hf (r_assign hf rfl) fun a hf => ?_
    refine s_ hf (r_assign hf rfl) fun a hf => ?_
    refine c_nt <| c_retc ?_
    obtain rfl := Option.some.inj hF
    refine r_block <| r_then <| c_ret hf (res_tt Try.results50 hf rfl rfl) ?_
    exact ⟨_, rfl, hw.below, rfl⟩
  refine c_iff hf rfl hb8 <| c_seq ?_
  obtain ⟨s10, hT9, hG9⟩ := of_bind hF
  clear hF
  refine c_meet (fun (s10 : Bool) a w => ∃ ρ, Wd w0 ρ w ∧ Fr 58 a [(2, .pointer (some ((⟨g1, 0, none⟩ : Addr).add 0))), (3, .pointer (some ((⟨g2, 0, none⟩ : Addr).add 0))), (15, .bool s10)] ∧ Va ρ w 1 g1 39 ([vI a0.p, vI a0.n, vI a0.m, vI a0.k, va0]) ∧ Va ρ w 2 g2 39 ([vI a1.p, vI a1.n, vI a1.m, vI a1.k, va1])) s10 ?_ ?_
  · have hF := hT9
    refine c_region ?_
    refine s_ hf (r_load_agg ty39 hf rfl o1.cl rfl) fun a hf => ?_
    obtain ⟨x11, hx12, hF⟩ := of_bind hF
    refine st_fn 5 hw hf rfl rfl (by decide) (r_fn en98 hf rfl) (spec_l04Small_ok (a0 := a0) (h0.now hw) hx12) fun a v w ρ hf hw hE hN hΦ => ?_
    obtain rfl := hΦ
    replace o1 := o1.ext hE
    replace o2 := o2.ext hE
    refine s_ hf (r_not hf rfl) fun a hf => ?_
    refine s_ hf (r_move hf rfl) fun a hf => ?_
    rcases of_ite hF with ⟨hb13, hF⟩ | ⟨hb13, hF⟩
    · refine st_no (b := true) hf rfl rfl rfl hb13 rfl (by decide) fun a hf => ?_
      refine st_no (b := true) hf rfl rfl rfl hb13 rfl (by decide) fun a hf => ?_
      refine st_no (b := true) hf rfl rfl rfl hb13 rfl (by decide) fun a hf => ?_
      refine s_ hf (r_pick (b := true) hf rfl hb13 rfl) fun a hf => ?_
      refine s_ hf (r_move hf rfl) fun a hf => ?_
      refine st_no (b := true) hf rfl rfl rfl rfl rfl (by decide) fun a hf => ?_
      refine st_no (b := true) hf rfl rfl rfl rfl rfl (by decide) fun a hf => ?_
      refine st_no (b := true) hf rfl rfl rfl rfl rfl (by decide) fun a hf => ?_
      refine st_no (b := true) hf rfl rfl rfl rfl rfl (by decide) fun a hf => ?_
      refine st_no (b := true) hf rfl rfl rfl rfl rfl (by decide) fun a hf => ?_
      refine s_ hf (r_pick (b := true) hf rfl rfl rfl) fun a hf => ?_
      refine s_ hf (r_move hf rfl) fun a hf => ?_
      refine st_no (b := true) hf rfl rfl rfl rfl rfl (by decide) fun a hf => ?_
      refine st_no (b := true) hf rfl rfl rfl rfl rfl (by decide) fun a hf => ?_
      refine st_no (b := true) hf rfl rfl rfl rfl rfl (by decide) fun a hf => ?_
      refine st_no (b := true) hf rfl rfl rfl rfl rfl (by decide) fun a hf => ?_
      refine st_no (b := true) hf rfl rfl rfl rfl rfl (by decide) fun a hf => ?_
      refine s_ hf (r_pick (b := true) hf rfl rfl rfl) fun a hf => ?_
      refine s_ hf (r_move hf rfl) fun a hf => ?_
      refine st_no (b := true) hf rfl rfl rfl rfl rfl (by decide) fun a hf => ?_
      refine st_no (b := true) hf rfl rfl rfl rfl rfl (by decide) fun a hf => ?_
      refine st_no (b := true) hf rfl rfl rfl rfl rfl (by decide) fun a hf => ?_
      refine st_no (b := true) hf rfl rfl rfl rfl rfl (by decide) fun a hf => ?_
      refine st_no (b := true) hf rfl rfl rfl rfl rfl (by decide) fun a hf => ?_
      refine s_ hf (r_pick (b := true) hf rfl rfl rfl) fun a hf => ?_
      refine s_ hf (r_assign hf rfl) fun a hf => ?_
      refine c_nil ⟨rfl, ?_⟩
      obtain rfl := Option.some.inj hF
      exact ⟨_, hw, hf.sub ⟨rfl, rfl, rfl, trivial⟩, o1, o2⟩
    refine st_g (b := false) hf rfl rfl rfl hb13 rfl (by decide) (r_load_agg ty39 hf rfl o2.cl rfl) fun a hf => ?_
    obtain ⟨x14, hx15, hF⟩ := of_bind hF
    refine st_gfn (b := false) 6 hw hf rfl rfl rfl hb13 rfl (by decide) (r_fn en98 hf rfl) (spec_l04Small_ok (a0 := a1) (h1.now hw) hx15) fun a v w ρ hf hw hE hN hΦ => ?_
    obtain rfl := hΦ
    replace o1 := o1.ext hE
    replace o2 := o2.ext hE
    refine st_g (b := false) hf rfl rfl rfl hb13 rfl (by decide) (r_not hf rfl) fun a hf => ?_
    refine s_ hf (r_pick (b := false) hf rfl hb13 rfl) fun a hf => ?_
    refine s_ hf (r_move hf rfl) fun a hf => ?_
    rcases of_ite hF with ⟨hb16, hF⟩ | ⟨hb16, hF⟩
    · refine st_no (b := true) hf rfl rfl rfl hb16 rfl (by decide) fun a hf => ?_
      refine st_no (b := true) hf rfl rfl rfl hb16 rfl (by decide) fun a hf => ?_
      refine st_no (b := true) hf rfl rfl rfl hb16 rfl (by decide) fun a hf => ?_
      refine st_no (b := true) hf rfl rfl rfl hb16 rfl (by decide) fun a hf => ?_
      refine st_no (b := true) hf rfl rfl rfl hb16 rfl (by decide) fun a hf => ?_
      refine s_ hf (r_pick (b := true) hf rfl hb16 rfl) fun a hf => ?_
      refine s_ hf (r_move hf rfl) fun a hf => ?_
      refine st_no (b := true) hf rfl rfl rfl rfl rfl (by decide) fun a hf => ?_
      refine st_no (b := true) hf rfl rfl rfl rfl rfl (by decide) fun a hf => ?_
      refine st_no (b := true) hf rfl rfl rfl rfl rfl (by decide) fun a hf => ?_
      refine st_no (b := true) hf rfl rfl rfl rfl rfl (by decide) fun a hf => ?_
      refine st_no (b := true) hf rfl rfl rfl rfl rfl (by decide) fun a hf => ?_
      refine s_ hf (r_pick (b := true) hf rfl rfl rfl) fun a hf => ?_
      refine s_ hf (r_move hf rfl) fun a hf => ?_
      refine st_no (b := true) hf rfl rfl rfl rfl rfl (by decide) fun a hf => ?_
      refine st_no (b := true) hf rfl rfl rfl rfl rfl (by decide) fun a hf => ?_
      refine st_no (b := true) hf rfl rfl rfl rfl rfl (by decide) fun a hf => ?_
      refine st_no (b := true) hf rfl rfl rfl rfl rfl (by decide) fun a hf => ?_
      refine st_no (b := true) hf rfl rfl rfl rfl rfl (by decide) fun a hf => ?_
      refine s_ hf (r_pick (b := true) hf rfl rfl rfl) fun a hf => ?_
      refine s_ hf (r_assign hf rfl) fun a hf => ?_
      refine c_nil ⟨rfl, ?_⟩
      obtain rfl := Option.some.inj hF
      exact ⟨_, hw, hf.sub ⟨rfl, rfl, rfl, trivial⟩, o1, o2⟩
    refine st_g (b := false) hf rfl rfl rfl hb16 rfl (by decide) (r_fa fa39_1 hf rfl) fun a hf => ?_
    refine st_g (b := false) hf rfl rfl rfl hb16 rfl (by decide) (r_load_cell ty2 hf rfl (o1.cl.at_ 1 _ rfl)) fun a hf => ?_
    refine st_g (b := false) hf rfl rfl rfl hb16 rfl (by decide) (r_fa fa39_1 hf rfl) fun a hf => ?_
    refine st_g (b := false) hf rfl rfl rfl hb16 rfl (by decide) (r_load_cell ty2 hf rfl (o2.cl.at_ 1 _ rfl)) fun a hf => ?_
    refine st_g (b := false) hf rfl rfl rfl hb16 rfl (by decide) (r_neq hf rfl rfl) fun a hf => ?_
    refine s_ hf (r_pick (b := false) hf rfl hb16 rfl) fun a hf => ?_
    refine s_ hf (r_move hf rfl) fun a hf => ?_
    rcases of_ite hF with ⟨hb17, hF⟩ | ⟨hb17, hF⟩
    · refine st_no (b := true) hf rfl rfl rfl hb17 rfl (by decide) fun a hf => ?_
      refine st_no (b := true) hf rfl rfl rfl hb17 rfl (by decide) fun a hf => ?_
      refine st_no (b := true) hf rfl rfl rfl hb17 rfl (by decide) fun a hf => ?_
      refine st_no (b := true) hf rfl rfl rfl hb17 rfl (by decide) fun a hf => ?_
      refine st_no (b := true) hf rfl rfl rfl hb17 rfl (by decide) fun a hf => ?_
      refine s_ hf (r_pick (b := true) hf rfl hb17 rfl) fun a hf => ?_
      refine s_ hf (r_move hf rfl) fun a hf => ?_
      refine st_no (b := true) hf rfl rfl rfl rfl rfl (by decide) fun a hf => ?_
      refine st_no (b := true) hf rfl rfl rfl rfl rfl (by decide) fun a hf => ?_
      refine st_no (b := true) hf rfl rfl rfl rfl rfl (by decide) fun a hf => ?_
      refine st_no (b := true) hf rfl rfl rfl rfl rfl (by decide) fun a hf => ?_
      refine st_no (b := true) hf rfl rfl rfl rfl rfl (by decide) fun a hf => ?_
      refine s_ hf (r_pick (b := true) hf rfl rfl rfl) fun a hf => ?_
      refine s_ hf (r_assign hf rfl) fun a hf => ?_
      refine c_nil ⟨rfl, ?_⟩
      obtain rfl := Option.some.inj hF
      exact ⟨_, hw, hf.sub ⟨rfl, rfl, rfl, trivial⟩, o1, o2⟩
    refine st_g (b := false) hf rfl rfl rfl hb17 rfl (by decide) (r_fa fa39_2 hf rfl) fun a hf => ?_
    refine st_g (b := false) hf rfl rfl rfl hb17 rfl (by decide) (r_load_cell ty2 hf rfl (o1.cl.at_ 2 _ rfl)) fun a hf => ?_
    refine st_g (b := false) hf rfl rfl rfl hb17 rfl (by decide) (r_fa fa39_2 hf rfl) fun a hf => ?_
    refine st_g (b := false) hf rfl rfl rfl hb17 rfl (by decide) (r_load_cell ty2 hf rfl (o2.cl.at_ 2 _ rfl)) fun a hf => ?_
    refine st_g (b := false) hf rfl rfl rfl hb17 rfl (by decide) (r_neq hf rfl rfl) fun a hf => ?_
    refine s_ hf (r_pick (b := false) hf rfl hb17 rfl) fun a hf => ?_
    refine s_ hf (r_move hf rfl) fun a hf => ?_
    rcases of_ite hF with ⟨hb18, hF⟩ | ⟨hb18, hF⟩
    · refine st_no (b := true) hf rfl rfl rfl hb18 rfl (by decide) fun a hf => ?_
      refine st_no (b := true) hf rfl rfl rfl hb18 rfl (by decide) fun a hf => ?_
      refine st_no (b := true) hf rfl rfl rfl hb18 rfl (by decide) fun a hf => ?_
      refine st_no (b := true) hf rfl rfl rfl hb18 rfl (by decide) fun a hf => ?_
      refine st_no (b := true) hf rfl rfl rfl hb18 rfl (by decide) fun a hf => ?_
      refine s_ hf (r_pick (b := true) hf rfl hb18 rfl) fun a hf => ?_
      refine s_ hf (r_assign hf rfl) fun a hf => ?_
      refine c_nil ⟨rfl, ?_⟩
      obtain rfl := Option.some.inj hF
      exact ⟨_, hw, hf.sub ⟨rfl, rfl, rfl, trivial⟩, o1, o2⟩
    refine st_g (b := false) hf rfl rfl rfl hb18 rfl (by decide) (r_fa fa39_3 hf rfl) fun a hf => ?_
    refine st_g (b := false) hf rfl rfl rfl hb18 rfl (by decide) (r_load_cell ty2 hf rfl (o1.cl.at_ 3 _ rfl)) fun a hf => ?_
    refine st_g (b := false) hf rfl rfl rfl hb18 rfl (by decide) (r_fa fa39_3 hf rfl) fun a hf => ?_
    refine st_g (b := false) hf rfl rfl rfl hb18 rfl (by decide) (r_load_cell ty2 hf rfl (o2.cl.at_ 3 _ rfl)) fun a hf => ?_
    refine st_g (b := false) hf rfl rfl rfl hb18 rfl (by decide) (r_neq hf rfl rfl) fun a hf => ?_
    refine s_ hf (r_pick (b := false) hf rfl hb18 rfl) fun a hf => ?_
    refine s_ hf (r_assign hf rfl) fun a hf => ?_
    refine c_nil ⟨rfl, ?_⟩
    obtain rfl := Option.some.inj hF
    exact ⟨_, hw, hf.sub ⟨rfl, rfl, rfl, trivial⟩, o1, o2⟩
  rintro a w ⟨ρ, hw, hf, o1, o2⟩
  have hF := hG9
  refine n_then ?_
  rcases of_ite hF with ⟨hb19, hF⟩ | ⟨hb19, hF⟩
  · refine c_ift hf rfl hb19 <| c_seq <| c_region ?_
    refine s_ hf (r_assign hf rfl) fun a hf => ?_
    refine s_ hf (r_assign hf rfl) fun a hf => ?_
    refine c_nt <| c_retc ?_
    obtain rfl := Option.some.inj hF
    refine r_block <| r_then <| c_ret hf (res_tt Try.results50 hf rfl rfl) ?_
    exact ⟨_, rfl, hw.below, rfl⟩
  refine c_iff hf rfl hb19 <| c_seq <| c_region ?_
  refine s_ hf (r_fa fa39_4 hf rfl) fun a hf => ?_
  refine s_ hf (r_load_cell ty37 hf rfl (o1.cl.at_ 4 _ rfl)) fun a hf => ?_
  refine s_ hf (r_len Try.underlying37 (h0.now hw) hf rfl) fun a hf => ?_
  refine s_ hf (r_fa fa39_4 hf rfl) fun a hf => ?_
  refine s_ hf (r_load_cell ty37 hf rfl (o2.cl.at_ 4 _ rfl)) fun a hf => ?_
  refine s_ hf (r_len Try.underlying37 (h1.now hw) hf rfl) fun a hf => ?_
  refine s_ hf (r_neq hf rfl rfl) fun a hf => ?_
  refine s_ hf (r_assign hf rfl) fun a hf => ?_
  refine c_nt ?_
  rcases of_ite hF with ⟨hb20, hF⟩ | ⟨hb20, hF⟩
  · refine c_ift hf rfl hb20 <| c_seq <| c_region ?_
    refine s_ hf (r_assign hf rfl) fun a hf => ?_
    refine s_ hf (r_assign hf rfl) fun a hf => ?_
    refine c_nt <| c_retc ?_
    obtain rfl := Option.some.inj hF
    refine r_block <| r_then <| c_ret hf (res_tt Try.results50 hf rfl rfl) ?_
    exact ⟨_, rfl, hw.below, rfl⟩
  refine c_iff hf rfl hb20 <| c_skip <| n_block <| n_then <| c_seq ?_
  obtain ⟨x21, hx22, hF⟩ := of_bind hF
  replace hf : Fr 58 a [(2, .pointer (some ((⟨g1, 0, none⟩ : Addr).add 0))), (3, .pointer (some ((⟨g2, 0, none⟩ : Addr).add 0)))] := hf.sub ⟨rfl, rfl, trivial⟩
  refine c_drawL (h := 3) mixed (by kernel_rfl) (by kernel_rfl) (fun ρ w => Va ρ w 1 g1 39 ([vI a0.p, vI a0.n, vI a0.m, vI a0.k, va0]) ∧ Va ρ w 2 g2 39 ([vI a1.p, vI a1.n, vI a1.m, vI a1.k, va1])) ?_ [fun ρ w v => .agg ([vI a0.p, vI a0.n, vI a0.m, vI a0.k, va0]).toArray = v, fun ρ w v => .agg ([vI a1.p, vI a1.n, vI a1.m, vI a1.k, va1]).toArray = v, fun ρ w v => ∃ u23, .agg ([vI x21.p, vI x21.n, vI x21.m, vI x21.k, u23]).toArray = v ∧ O82 ρ w w0 7 u23 x21.ps] ?_ hw ⟨o1, o2⟩ hf ?_ ?_
  · intro ρ w ρ' w' hE hG
    obtain ⟨o1, o2⟩ := hG
    exact ⟨o1.ext hE, o2.ext hE⟩
  · exact LastsL.cons (fun _ _ _ _ _ _ h => h) <| LastsL.cons (fun _ _ _ _ _ _ h => h) <| LastsL.cons (fun _ _ _ _ _ hE h => by obtain ⟨u23, h, o7⟩ := h; exact ⟨_, h, o7.ext hE⟩) <| LastsL.nil
  · refine StepsB.cons ?_ <| StepsB.cons ?_ <| StepsB.cons ?_ <| StepsB.nil
    · intro ρ w a hw hG hf hd K hK
      obtain ⟨o1, o2⟩ := hG
      exact dv_ hK hw (wn rfl) (r_load_agg ty39 hf rfl o1.cl rfl) rfl
    · intro ρ w a hw hG hf hd K hK
      obtain ⟨o1, o2⟩ := hG
      exact dv_ hK hw (wn rfl) (r_load_agg ty39 hf rfl o2.cl rfl) rfl
    · intro ρ w a hw hG hf hd K hK
      obtain ⟨o1, o2⟩ := hG
      obtain ⟨_, hf, rfl⟩ := got (hd 1 (by kernel_rfl)) hf
      refine dc_ hK hw (wn rfl) (r_fn en100 hf rfl) (spec_l01Sorted_ok (a0 := a1) (h1.now hw) hx22) fun v w' hΦ => ?_
      obtain ⟨hb, hΦ⟩ := hΦ
      obtain ⟨u23, rfl, hr24⟩ := hΦ
      have hE := Ext.new (ρ := ρ) 7 hb
      have o7 := Fresh.own (ρ := ρ) (B := w0.heap.size) hr24 hw.below.size 7
      exact ⟨_, hw.new 7 hb, hE, ex_ <| an_ rfl <| o7⟩
  intro ρ w a hw hG hf hd
  obtain ⟨o1, o2⟩ := hG
  obtain ⟨_, hf, rfl⟩ := got (hd 0 (by decide)) hf
  obtain ⟨_, hf, ⟨u23, rfl, o7⟩⟩ := got (hd 2 (by decide)) hf
  obtain ⟨x25, hx26, hF⟩ := of_bind hF
  refine st_fn 8 hw hf rfl rfl (by decide) (r_fn en99 hf rfl) (spec_l04Count_ok (a0 := a0) (a1 := x21) (h0.now hw) o7.ro hx26) fun a v w ρ hf hw hE hN hΦ => ?_
  obtain rfl := hΦ
  replace o1 := o1.ext hE
  replace o2 := o2.ext hE
  replace o7 := o7.ext hE
  refine s_ hf (r_gtr hf rfl rfl) fun a hf => ?_
  refine s_ hf (r_assign hf rfl) fun a hf => ?_
  refine s_ hf (r_assign hf rfl) fun a hf => ?_
  refine c_nt <| c_retc ?_
  obtain rfl := Option.some.inj hF
  refine c_ret hf (res_tt Try.results50 hf rfl rfl) ?_
  exact ⟨_, rfl, hw.below, rfl⟩
/-! f75 -/
noncomputable def impl_areSchemes_l1 (a0 : List Sch) (s2 : Int) : Option (LR Int Bool) :=
  if (decide (s2 < (a0.length : Int))) = true then (if 0 ≤ s2 ∧ s2 < (a0.length : Int) then ((impl_IsScheme (gl zSch a0 s2)).bind fun x6 => if (!x6) = true then (some (.ret false)) else (some (.next (w64 (s2 + 1))))) else none) else (some (.stop s2))
noncomputable def impl_areSchemes (a0 : List Sch) : Option Bool :=
  (iter (fun s => impl_areSchemes_l1 a0 s) 0).bind fun o => match o with | .stop s2 => (some (true)) | .ret r => some r | .next _ => none
theorem impl_areSchemes_ok {w0 : World} {a0 : List Sch} {va0 : Value} (h0 : Ro kSch w0 va0 a0) {r : Bool} (hF : impl_areSchemes a0 = some r) :
    Calls Try.prog 75 [va0].toArray w0 fun e w => ∃ v, e = .returned v ∧ Below w0.heap.size w0 w ∧ .bool r = v := by
  refine calls_of (k := 15) Try.func75 rfl rfl (Nat.le_of_ble_eq_true rfl) fun a hf => ?_
  replace hf : Fr 15 a [(0, va0)] := hf
  refine c_start fun w ρ hw => ?_
  unfold impl_areSchemes at hF
  refine c_seq <| c_region ?_
  refine s_ hf (r_assign hf rfl) fun a hf => ?_
  refine c_nt <| c_seq <| c_seq <| c_region ?_
  refine s_ hf (r_move hf rfl) fun a hf => ?_
  refine s_ hf (r_len Try.underlying122 (h0.now hw) hf rfl) fun a hf => ?_
  refine s_ hf (r_move hf rfl) fun a hf => ?_
  refine c_nt ?_
  obtain ⟨ol1, ho1, hG1⟩ := of_bind hF
  clear hF
  refine c_block (c_loop (id := 0) (fun s => impl_areSchemes_l1 a0 s) (fun (s2 : Int) a w => ∃ ρ, Wd w0 ρ w ∧ Fr 15 a [(5, va0), (6, vI (a0.length : Int)), (7, vI s2)]) (fun (s2 : Int) a w => ∃ ρ, Wd w0 ρ w ∧ Fr 15 a []) ho1 ⟨_, hw, hf.sub ⟨rfl, rfl, rfl, trivial⟩⟩ ?_ ?_)
  · rintro s2 lr a w ⟨ρ, hw, hf⟩ hF
    replace hF : impl_areSchemes_l1 a0 s2 = some lr := hF
    unfold impl_areSchemes_l1 at hF
    refine c_seq <| c_region ?_
    refine s_ hf (r_lss hf rfl rfl) fun a hf => ?_
    refine c_nt <| c_seq ?_
    rcases of_ite hF with ⟨hb3, hF⟩ | ⟨hb3, hF⟩
    rotate_left
    · refine c_iff hf rfl hb3 <| c_exit <| x_then ?_
      obtain rfl := Option.some.inj hF
      exact Rnd.stops ⟨_, hw, hf.sub trivial⟩
    refine c_ift hf rfl hb3 <| c_skip <| n_then <| c_seq <| c_block <| c_seq <| c_region ?_
    obtain ⟨hc4, hF⟩ := of_guard hF
    obtain ⟨ad5, c5, u5, he5, hl5, ho5⟩ := Ro.el_sch h0 hc4.1 hc4.2
    refine s_ hf (r_idx Try.underlying122 sz39 hf rfl ⟨_, he5⟩ rfl hc4.1 hc4.2) fun a hf => ?_
    refine s_ hf (r_load_agg ty39 hf rfl (hl5.below hw.below) rfl) fun a hf => ?_
    have o2 : Ow (kf cProd) 82 ρ w w0.heap.size 2 (.slice none 0 0) [] := Ow.nil _ _ _ _ _ _
    refine sx_ hf (r_alloc (cs := [vI 0, vI 0, vI 0, vI 0, (.slice none 0 0)]) 1 ze39 rfl hw) fun a v w hf hΦ => ?_
    obtain ⟨g1, ρ, rfl, hw, hE, o1⟩ := hΦ
    replace o2 := o2.ext hE
    refine sk_ hf (r_store_w (cs' := [vI ((gl zSch a0 s2).p), vI ((gl zSch a0 s2).n), vI ((gl zSch a0 s2).m), vI ((gl zSch a0 s2).k), u5]) hw o1 (by decide) ty39 rfl rfl (one_sch (ho5.now hw).one) hf rfl rfl rfl) fun a w hf hΦ => ?_
    obtain ⟨hw, hA, o1⟩ := hΦ
    replace o2 := o2.adv hA (by decide)
    refine c_nt <| c_seq <| c_region ?_
    refine s_ hf (r_load_agg ty39 hf rfl o1.cl rfl) fun a hf => ?_
    obtain ⟨x6, hx7, hF⟩ := of_bind hF
    refine st_fn 3 hw hf rfl rfl (by decide) (r_fn en84 hf rfl) (impl_IsScheme_ok (a0 := (gl zSch a0 s2)) (ho5.now hw) hx7) fun a v w ρ hf hw hE hN hΦ => ?_
    obtain rfl := hΦ
    replace o2 := o2.ext hE
    replace o1 := o1.ext hE
    refine s_ hf (r_not hf rfl) fun a hf => ?_
    refine c_nt ?_
    rcases of_ite hF with ⟨hb8, hF⟩ | ⟨hb8, hF⟩
    rotate_left
    · refine c_iff hf rfl hb8 <| c_skip <| n_block <| n_then <| c_region ?_
      refine s_ hf (r_add hf rfl rfl) fun a hf => ?_
      refine s_ hf (r_move hf rfl) fun a hf => ?_
      refine c_nil ?_
      obtain rfl := Option.some.inj hF
      exact Rnd.goes ⟨_, hw, hf.sub ⟨rfl, rfl, rfl, trivial⟩⟩
    refine c_ift hf rfl hb8 <| c_seq <| c_region ?_
    refine s_ hf (r_assign hf rfl) fun a hf => ?_
    refine c_nt <| c_retc ?_
    obtain rfl := Option.some.inj hF
    refine r_block <| r_then ?_
    refine Rnd.rets fun ho => ?_
    subst ho
    have hF := hG1
    dsimp only at hF
    obtain rfl := Option.some.inj hF
    refine r_block <| r_then <| c_ret hf (res_tmp Try.results75 hf rfl) ?_
    exact ⟨_, rfl, hw.below, rfl⟩
  rintro s2 a w hs ⟨ρ, hw, hf⟩
  subst hs
  have hF := hG1
  dsimp only at hF
  refine x_block <| n_then <| c_seq <| c_region ?_
  refine s_ hf (r_assign hf rfl) fun a hf => ?_
  refine c_nt <| c_retc ?_
  obtain rfl := Option.some.inj hF
  refine c_ret hf (res_tmp Try.results75 hf rfl) ?_
  exact ⟨_, rfl, hw.below, rfl⟩
/-! f103 -/
noncomputable def impl_pairCode (a0 : Sch) (a1 : Sch) : Option Int :=
  (impl_areSchemes ([a0, a1])).bind fun x1 => if (!x1) = true then (some (1)) else ((if (decide (a0.p ≠ a1.p)) = true then (some true) else (if (decide (a0.n ≠ a1.n)) = true then (some true) else (if (decide (a0.m ≠ a1.m)) = true then (some true) else (some (decide (a0.k ≠ a1.k)))))).bind fun (s5 : Bool) => if s5 = true then (some (2)) else (some (0)))
theorem impl_pairCode_ok {w0 : World} {a0 : Sch} {a1 : Sch} {va0 : Value} {va1 : Value} (h0 : Ro (kf cProd) w0 va0 a0.ps) (h1 : Ro (kf cProd) w0 va1 a1.ps) {r : Int} (hF : impl_pairCode a0 a1 = some r) :
    Calls Try.prog 103 [.agg ([vI a0.p, vI a0.n, vI a0.m, vI a0.k, va0]).toArray, .agg ([vI a1.p, vI a1.n, vI a1.m, vI a1.k, va1]).toArray].toArray w0 fun e w => ∃ v, e = .returned v ∧ Below w0.heap.size w0 w ∧ .int .i64 r = v := by
  refine calls_of (k := 38) Try.func103 rfl rfl (Nat.le_of_ble_eq_true rfl) fun a hf => ?_
  replace hf : Fr 38 a [(0, .agg ([vI a0.p, vI a0.n, vI a0.m, vI a0.k, va0]).toArray), (1, .agg ([vI a1.p, vI a1.n, vI a1.m, vI a1.k, va1]).toArray)] := hf
  refine c_start fun w ρ hw => ?_
  unfold impl_pairCode at hF
  refine c_seq <| c_region ?_
  refine sx_ hf (r_box (cs := [vI a0.p, vI a0.n, vI a0.m, vI a0.k, va0]) 1 hw hf rfl rfl) fun a v w hf hΦ => ?_
  obtain ⟨g1, ρ, rfl, hw, hE, o1⟩ := hΦ
  refine sx_ hf (r_box (cs := [vI a1.p, vI a1.n, vI a1.m, vI a1.k, va1]) 2 hw hf rfl rfl) fun a v w hf hΦ => ?_
  obtain ⟨g2, ρ, rfl, hw, hE, o2⟩ := hΦ
  replace o1 := o1.ext hE
  refine s_ hf (r_assign hf rfl) fun a hf => ?_
  refine c_nt <| c_seq <| c_block <| c_seq <| c_region ?_
  refine s_ hf (r_load_agg ty39 hf rfl o1.cl rfl) fun a hf => ?_
  refine s_ hf (r_load_agg ty39 hf rfl o2.cl rfl) fun a hf => ?_
  refine sx_ hf (r_lit_ro (d := kSch) (m := 5) (xs := ([a0, a1] : List Sch)) (raws := [⟨[vI a0.p, vI a0.n, vI a0.m, vI a0.k, va0], rfl, one_sch (h0.now hw).one⟩, ⟨[vI a1.p, vI a1.n, vI a1.m, vI a1.k, va1], rfl, one_sch (h1.now hw).one⟩]) (vs := [.agg ([vI a0.p, vI a0.n, vI a0.m, vI a0.k, va0]).toArray, .agg ([vI a1.p, vI a1.n, vI a1.m, vI a1.k, va1]).toArray]) rfl Try.underlying122 el39 (Nat.le_of_ble_eq_true rfl) (Nat.le_of_ble_eq_true rfl) hw hf rfl rfl rfl ⟨⟨_, rfl, (h0.now hw)⟩, ⟨⟨_, rfl, (h1.now hw)⟩, trivial⟩⟩) fun a v3 w hf hΦ => ?_
  obtain ⟨ρ, hw, hE, o3⟩ := hΦ
  replace o1 := o1.ext hE
  replace o2 := o2.ext hE
  obtain ⟨x1, hx2, hF⟩ := of_bind hF
  refine st_fn 4 hw hf rfl rfl (by decide) (r_fn en75 hf rfl) (impl_areSchemes_ok o3 hx2) fun a v w ρ hf hw hE hN hΦ => ?_
  obtain rfl := hΦ
  replace o1 := o1.ext hE
  replace o2 := o2.ext hE
  replace o3 := o3.ext hE
  refine s_ hf (r_not hf rfl) fun a hf => ?_
  refine s_ hf (r_assign hf rfl) fun a hf => ?_
  refine c_nt ?_
  rcases of_ite hF with ⟨hb3, hF⟩ | ⟨hb3, hF⟩
  · refine c_ift hf rfl hb3 <| c_seq <| c_region ?_
    refine s_ hf (r_assign hf rfl) fun a hf => ?_
    refine c_nt <| c_retc ?_
    obtain rfl := Option.some.inj hF
    refine r_block <| r_then <| c_ret hf (res_tmp Try.results103 hf rfl) ?_
    exact ⟨_, rfl, hw.below, rfl⟩
  refine c_iff hf rfl hb3 <| c_seq ?_
  obtain ⟨s5, hT4, hG4⟩ := of_bind hF
  clear hF
  refine c_meet (fun (s5 : Bool) a w => ∃ ρ, Wd w0 ρ w ∧ Fr 38 a [(11, .bool s5)]) s5 ?_ ?_
  · have hF := hT4
    refine c_region ?_
    refine s_ hf (r_fa fa39_0 hf rfl) fun a hf => ?_
    refine s_ hf (r_load_cell ty2 hf rfl (o1.cl.at_ 0 _ rfl)) fun a hf => ?_
    refine s_ hf (r_fa fa39_0 hf rfl) fun a hf => ?_
    refine s_ hf (r_load_cell ty2 hf rfl (o2.cl.at_ 0 _ rfl)) fun a hf => ?_
    refine s_ hf (r_neq hf rfl rfl) fun a hf => ?_
    refine s_ hf (r_move hf rfl) fun a hf => ?_
    rcases of_ite hF with ⟨hb6, hF⟩ | ⟨hb6, hF⟩
    · refine st_no (b := true) hf rfl rfl rfl hb6 rfl (by decide) fun a hf => ?_
      refine st_no (b := true) hf rfl rfl rfl hb6 rfl (by decide) fun a hf => ?_
      refine st_no (b := true) hf rfl rfl rfl hb6 rfl (by decide) fun a hf => ?_
      refine st_no (b := true) hf rfl rfl rfl hb6 rfl (by decide) fun a hf => ?_
      refine st_no (b := true) hf rfl rfl rfl hb6 rfl (by decide) fun a hf => ?_
      refine s_ hf (r_pick (b := true) hf rfl hb6 rfl) fun a hf => ?_
      refine s_ hf (r_move hf rfl) fun a hf => ?_
      refine st_no (b := true) hf rfl rfl rfl rfl rfl (by decide) fun a hf => ?_
      refine st_no (b := true) hf rfl rfl rfl rfl rfl (by decide) fun a hf => ?_
      refine st_no (b := true) hf rfl rfl rfl rfl rfl (by decide) fun a hf => ?_
      refine st_no (b := true) hf rfl rfl rfl rfl rfl (by decide) fun a hf => ?_
      refine st_no (b := true) hf rfl rfl rfl rfl rfl (by decide) fun a hf => ?_
      refine s_ hf (r_pick (b := true) hf rfl rfl rfl) fun a hf => ?_
      refine s_ hf (r_move hf rfl) fun a hf => ?_
      refine st_no (b := true) hf rfl rfl rfl rfl rfl (by decide) fun a hf => ?_
      refine st_no (b := true) hf rfl rfl rfl rfl rfl (by decide) fun a hf => ?_
      refine st_no (b := true) hf rfl rfl rfl rfl rfl (by decide) fun a hf => ?_
      refine st_no (b := true) hf rfl rfl rfl rfl rfl (by decide) fun a hf => ?_
      refine st_no (b := true) hf rfl rfl rfl rfl rfl (by decide) fun a hf => ?_
      refine s_ hf (r_pick (b := true) hf rfl rfl rfl) fun a hf => ?_
      refine s_ hf (r_assign hf rfl) fun a hf => ?_
      refine c_nil ⟨rfl, ?_⟩
      obtain rfl := Option.some.inj hF
      exact ⟨_, hw, hf.sub ⟨rfl, trivial⟩⟩
    refine st_g (b := false) hf rfl rfl rfl hb6 rfl (by decide) (r_fa fa39_1 hf rfl) fun a hf => ?_
    refine st_g (b := false) hf rfl rfl rfl hb6 rfl (by decide) (r_load_cell ty2 hf rfl (o1.cl.at_ 1 _ rfl)) fun a hf => ?_
    refine st_g (b := false) hf rfl rfl rfl hb6 rfl (by decide) (r_fa fa39_1 hf rfl) fun a hf => ?_
    refine st_g (b := false) hf rfl rfl rfl hb6 rfl (by decide) (r_load_cell ty2 hf rfl (o2.cl.at_ 1 _ rfl)) fun a hf => ?_
    refine st_g (b := false) hf rfl rfl rfl hb6 rfl (by decide) (r_neq hf rfl rfl) fun a hf => ?_
    refine s_ hf (r_pick (b := false) hf rfl hb6 rfl) fun a hf => ?_
    refine s_ hf (r_move hf rfl) fun a hf => ?_
    rcases of_ite hF with ⟨hb7, hF⟩ | ⟨hb7, hF⟩
    · refine st_no (b := true) hf rfl rfl rfl hb7 rfl (by decide) fun a hf => ?_
      refine st_no (b := true) hf rfl rfl rfl hb7 rfl (by decide) fun a hf => ?_
      refine st_no (b := true) hf rfl rfl rfl hb7 rfl (by decide) fun a hf => ?_
      refine st_no (b := true) hf rfl rfl rfl hb7 rfl (by decide) fun a hf => ?_
      refine st_no (b := true) hf rfl rfl rfl hb7 rfl (by decide) fun a hf => ?_
      refine s_ hf (r_pick (b := true) hf rfl hb7 rfl) fun a hf => ?_
      refine s_ hf (r_move hf rfl) fun a hf => ?_
      refine st_no (b := true) hf rfl rfl rfl rfl rfl (by decide) fun a hf => ?_
      refine st_no (b := true) hf rfl rfl rfl rfl rfl (by decide) fun a hf => ?_
      refine st_no (b := true) hf rfl rfl rfl rfl rfl (by decide) fun a hf => ?_
      refine st_no (b := true) hf rfl rfl rfl rfl rfl (by decide) fun a hf => ?_
      refine st_no (b := true) hf rfl rfl rfl rfl rfl (by decide) fun a hf => ?_
      refine s_ hf (r_pick (b := true) hf rfl rfl rfl) fun a hf => ?_
      refine s_ hf (r_assign hf rfl) fun a hf => ?_
      refine c_nil ⟨rfl, ?_⟩
      obtain rfl := Option.some.inj hF
      exact ⟨_, hw, hf.sub ⟨rfl, trivial⟩⟩
    refine st_g (b := false) hf rfl rfl rfl hb7 rfl (by decide) (r_fa fa39_2 hf rfl) fun a hf => ?_
    refine st_g (b := false) hf rfl rfl rfl hb7 rfl (by decide) (r_load_cell ty2 hf rfl (o1.cl.at_ 2 _ rfl)) fun a hf => ?_
    refine st_g (b := false) hf rfl rfl rfl hb7 rfl (by decide) (r_fa fa39_2 hf rfl) fun a hf => ?_
    refine st_g (b := false) hf rfl rfl rfl hb7 rfl (by decide) (r_load_cell ty2 hf rfl (o2.cl.at_ 2 _ rfl)) fun a hf => ?_
    refine st_g (b := false) hf rfl rfl rfl hb7 rfl (by decide) (r_neq hf rfl rfl) fun a hf => ?_
    refine s_ hf (r_pick (b := false) hf rfl hb7 rfl) fun a hf => ?_
    refine s_ hf (r_move hf rfl) fun a hf => ?_
    rcases of_ite hF with ⟨hb8, hF⟩ | ⟨hb8, hF⟩
    · refine st_no (b := true) hf rfl rfl rfl hb8 rfl (by decide) fun a hf => ?_
      refine st_no (b := true) hf rfl rfl rfl hb8 rfl (by decide) fun a hf => ?_
      refine st_no (b := true) hf rfl rfl rfl hb8 rfl (by decide) fun a hf => ?_
      refine st_no (b := true) hf rfl rfl rfl hb8 rfl (by decide) fun a hf => ?_
      refine st_no (b := true) hf rfl rfl rfl hb8 rfl (by decide) fun a hf => ?_
      refine s_ hf (r_pick (b := true) hf rfl hb8 rfl) fun a hf => ?_
      refine s_ hf (r_assign hf rfl) fun a hf => ?_
      refine c_nil ⟨rfl, ?_⟩
      obtain rfl := Option.some.inj hF
      exact ⟨_, hw, hf.sub ⟨rfl, trivial⟩⟩
    refine st_g (b := false) hf rfl rfl rfl hb8 rfl (by decide) (r_fa fa39_3 hf rfl) fun a hf => ?_
    refine st_g (b := false) hf rfl rfl rfl hb8 rfl (by decide) (r_load_cell ty2 hf rfl (o1.cl.at_ 3 _ rfl)) fun a hf => ?_
    refine st_g (b := false) hf rfl rfl rfl hb8 rfl (by decide) (r_fa fa39_3 hf rfl) fun a hf => ?_
    refine st_g (b := false) hf rfl rfl rfl hb8 rfl (by decide) (r_load_cell ty2 hf rfl (o2.cl.at_ 3 _ rfl)) fun a hf => ?_
    refine st_g (b := false) hf rfl rfl rfl hb8 rfl (by decide) (r_neq hf rfl rfl) fun a hf => ?_
    refine s_ hf (r_pick (b := false) hf rfl hb8 rfl) fun a hf => ?_
    refine s_ hf (r_assign hf rfl) fun a hf => ?_
    refine c_nil ⟨rfl, ?_⟩
    obtain rfl := Option.some.inj hF
    exact ⟨_, hw, hf.sub ⟨rfl, trivial⟩⟩
  rintro a w ⟨ρ, hw, hf⟩
  have hF := hG4
  refine n_then ?_
  rcases of_ite hF with ⟨hb9, hF⟩ | ⟨hb9, hF⟩
  · refine c_ift hf rfl hb9 <| c_seq <| c_region ?_
    refine s_ hf (r_assign hf rfl) fun a hf => ?_
    refine c_nt <| c_retc ?_
    obtain rfl := Option.some.inj hF
    refine r_block <| r_then <| c_ret hf (res_tmp Try.results103 hf rfl) ?_
    exact ⟨_, rfl, hw.below, rfl⟩
  refine c_iff hf rfl hb9 <| c_skip <| n_block <| n_then <| c_seq <| c_region ?_
  refine s_ hf (r_assign hf rfl) fun a hf => ?_
  refine c_nt <| c_retc ?_
  obtain rfl := Option.some.inj hF
  refine c_ret hf (res_tmp Try.results103 hf rfl) ?_
  exact ⟨_, rfl, hw.below, rfl⟩
/-! f51 -/
noncomputable def impl_AreEquivalent (a0 : Sch) (a1 : Sch) : Option (Bool × Int) :=
  (impl_pairCode a0 a1).bind fun x1 => if (decide (x1 ≠ 0)) = true then (some ((false, x1))) else ((impl_isSmall a0).bind fun x4 => if (!x4) = true then (some ((false, 2))) else ((impl_countChanges a0 a1).bind fun x7 => some ((decide (0 < x7), 0))))
theorem impl_AreEquivalent_ok {w0 : World} {a0 : Sch} {a1 : Sch} {va0 : Value} {va1 : Value} (h0 : Ro (kf cProd) w0 va0 a0.ps) (h1 : Ro (kf cProd) w0 va1 a1.ps) {r : Bool × Int} (hF : impl_AreEquivalent a0 a1 = some r) :
    Calls Try.prog 51 [.agg ([vI a0.p, vI a0.n, vI a0.m, vI a0.k, va0]).toArray, .agg ([vI a1.p, vI a1.n, vI a1.m, vI a1.k, va1]).toArray].toArray w0 fun e w => ∃ v, e = .returned v ∧ Below w0.heap.size w0 w ∧ .tuple #[.bool r.1, .int .i64 r.2] = v := by
  refine calls_of (k := 20) Try.func51 rfl rfl (Nat.le_of_ble_eq_true rfl) fun a hf => ?_
  replace hf : Fr 20 a [(0, .agg ([vI a0.p, vI a0.n, vI a0.m, vI a0.k, va0]).toArray), (1, .agg ([vI a1.p, vI a1.n, vI a1.m, vI a1.k, va1]).toArray)] := hf
  refine c_start fun w ρ hw => ?_
  unfold impl_AreEquivalent at hF
  refine c_seq <| c_region ?_
  refine sx_ hf (r_box (cs := [vI a0.p, vI a0.n, vI a0.m, vI a0.k, va0]) 1 hw hf rfl rfl) fun a v w hf hΦ => ?_
  obtain ⟨g1, ρ, rfl, hw, hE, o1⟩ := hΦ
  refine sx_ hf (r_box (cs := [vI a1.p, vI a1.n, vI a1.m, vI a1.k, va1]) 2 hw hf rfl rfl) fun a v w hf hΦ => ?_
  obtain ⟨g2, ρ, rfl, hw, hE, o2⟩ := hΦ
  replace o1 := o1.ext hE
  refine s_ hf (r_assign hf rfl) fun a hf => ?_
  refine s_ hf (r_assign hf rfl) fun a hf => ?_
  refine c_nt <| c_seq <| c_seq <| c_region ?_
  refine s_ hf (r_load_agg ty39 hf rfl o1.cl rfl) fun a hf => ?_
  refine s_ hf (r_load_agg ty39 hf rfl o2.cl rfl) fun a hf => ?_
  obtain ⟨x1, hx2, hF⟩ := of_bind hF
  refine st_fn 3 hw hf rfl rfl (by decide) (r_fn en103 hf rfl) (impl_pairCode_ok (a0 := a0) (a1 := a1) (h0.now hw) (h1.now hw) hx2) fun a v w ρ hf hw hE hN hΦ => ?_
  obtain rfl := hΦ
  replace o1 := o1.ext hE
  replace o2 := o2.ext hE
  refine s_ hf (r_assign hf rfl) fun a hf => ?_
  refine c_nt <| c_seq <| c_region ?_
  refine s_ hf (r_move hf rfl) fun a hf => ?_
  refine s_ hf (r_neq hf rfl rfl) fun a hf => ?_
  refine c_nt ?_
  rcases of_ite hF with ⟨hb3, hF⟩ | ⟨hb3, hF⟩
  · refine c_ift hf rfl hb3 <| c_seq <| c_region ?_
    refine s_ hf (r_move hf rfl) fun a hf => ?_
    refine s_ hf (r_assign hf rfl) fun a hf => ?_
    refine s_ hf (r_assign hf rfl) fun a hf => ?_
    refine c_nt <| c_retc ?_
    obtain rfl := Option.some.inj hF
    refine r_then <| c_ret hf (res_tt Try.results51 hf rfl rfl) ?_
    exact ⟨_, rfl, hw.below, rfl⟩
  refine c_iff hf rfl hb3 <| c_skip <| n_then <| c_seq <| c_seq <| c_region ?_
  refine s_ hf (r_load_agg ty39 hf rfl o1.cl rfl) fun a hf => ?_
  obtain ⟨x4, hx5, hF⟩ := of_bind hF
  refine st_fn 4 hw hf rfl rfl (by decide) (r_fn en101 hf rfl) (impl_isSmall_ok (a0 := a0) (h0.now hw) hx5) fun a v w ρ hf hw hE hN hΦ => ?_
  obtain rfl := hΦ
  replace o1 := o1.ext hE
  replace o2 := o2.ext hE
  refine s_ hf (r_not hf rfl) fun a hf => ?_
  refine c_nt ?_
  rcases of_ite hF with ⟨hb6, hF⟩ | ⟨hb6, hF⟩
  · refine c_ift hf rfl hb6 <| c_seq <| c_region ?_
    refine s_ hf (r_assign hf rfl) fun a hf => ?_
    refine s_ hf (r_assign hf rfl) fun a hf => ?_
    refine c_nt <| c_retc ?_
    obtain rfl := Option.some.inj hF
    refine r_then <| c_ret hf (res_tt Try.results51 hf rfl rfl) ?_
    exact ⟨_, rfl, hw.below, rfl⟩
  refine c_iff hf rfl hb6 <| c_skip <| n_then <| c_seq <| c_region ?_
  refine s_ hf (r_load_agg ty39 hf rfl o1.cl rfl) fun a hf => ?_
  refine s_ hf (r_load_agg ty39 hf rfl o2.cl rfl) fun a hf => ?_
  obtain ⟨x7, hx8, hF⟩ := of_bind hF
  refine st_fn 5 hw hf rfl rfl (by decide) (r_fn en102 hf rfl) (impl_countChanges_ok (a0 := a0) (a1 := a1) (h0.now hw) (h1.now hw) hx8) fun a v w ρ hf hw hE hN hΦ => ?_
  obtain rfl := hΦ
  replace o1 := o1.ext hE
  replace o2 := o2.ext hE
  refine s_ hf (r_gtr hf rfl rfl) fun a hf => ?_
  refine s_ hf (r_assign hf rfl) fun a hf => ?_
  refine s_ hf (r_assign hf rfl) fun a hf => ?_
  refine c_nt <| c_retc ?_
  obtain rfl := Option.some.inj hF
  refine c_ret hf (res_tt Try.results51 hf rfl rfl) ?_
  exact ⟨_, rfl, hw.below, rfl⟩
end Go.Proofs.YtB
