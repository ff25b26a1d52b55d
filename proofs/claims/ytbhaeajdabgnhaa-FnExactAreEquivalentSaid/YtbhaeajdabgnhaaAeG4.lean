/- Functions of the program as plain functions, and that they compute these. Printed by gen.py. -/
import Derived.Test.YtbhaeajdabgnhaaAeG3
set_option linter.unusedVariables false
set_option linter.unusedSimpArgs false
set_option maxRecDepth 4000
set_option maxHeartbeats 1000000
namespace Go.Proofs.YtB
open Go Go.RowKit Go.Proofs Go.Proofs.YtbhaeajdabgnhaaW.PrintWords
/-! f8 -/
noncomputable def laws_FnExactAreEquivalent (a0 : Sch) (a1 : Sch) : Option Bool :=
  (laws_szScheme a0 1048576).bind fun x1 => if (decide (x1 < 0)) = true then (some (true)) else ((laws_szScheme a1 x1).bind fun x4 => if (decide (x4 < 0)) = true then (some (true)) else ((laws_toScheme a0).bind fun x7 => (laws_toScheme a1).bind fun x11 => (spec_AreEquivalent x7 x11).bind fun x15 => (laws_toScheme a0).bind fun x17 => (laws_toScheme a1).bind fun x21 => (impl_AreEquivalent x17 x21).bind fun x25 => (if (x25.1 != x15.1) = true then (some true) else (some (decide (x25.2 ≠ x15.2)))).bind fun (s28 : Bool) => if s28 = true then (some (false)) else ((laws_toScheme a0).bind fun x31 => (laws_eqScheme x17 x31).bind fun x35 => if (!x35) = true then (some (false)) else ((laws_toScheme a1).bind fun x38 => (laws_eqScheme x21 x38).bind fun x42 => if (!x42) = true then (some (false)) else (some (true))))))
theorem laws_FnExactAreEquivalent_ok {w0 : World} {a0 : Sch} {a1 : Sch} {va0 : Value} {va1 : Value} (h0 : Ro (kf cProd) w0 va0 a0.ps) (h1 : Ro (kf cProd) w0 va1 a1.ps) {r : Bool} (hF : laws_FnExactAreEquivalent a0 a1 = some r) :
    Calls Try.prog 8 [.agg ([vI a0.p, vI a0.n, vI a0.m, vI a0.k, va0]).toArray, .agg ([vI a1.p, vI a1.n, vI a1.m, vI a1.k, va1]).toArray].toArray w0 fun e w => ∃ v, e = .returned v ∧ Below w0.heap.size w0 w ∧ .bool r = v := by
  refine calls_of (k := 58) Try.func8 rfl rfl (Nat.le_of_ble_eq_true rfl) fun a hf => ?_
  replace hf : Fr 58 a [(0, .agg ([vI a0.p, vI a0.n, vI a0.m, vI a0.k, va0]).toArray), (1, .agg ([vI a1.p, vI a1.n, vI a1.m, vI a1.k, va1]).toArray)] := hf
  refine c_start fun w ρ hw => ?_
  unfold laws_FnExactAreEquivalent at hF
  refine c_seq <| c_region ?_
  refine sx_ hf (r_box (cs := [vI a0.p, vI a0.n, vI a0.m, vI a0.k, va0]) 1 hw hf rfl rfl) fun a v w hf hΦ => ?_
  obtain ⟨g1, ρ, rfl, hw, hE, o1⟩ := hΦ
  refine sx_ hf (r_box (cs := [vI a1.p, vI a1.n, vI a1.m, vI a1.k, va1]) 2 hw hf rfl rfl) fun a v w hf hΦ => ?_
  obtain ⟨g2, ρ, rfl, hw, hE, o2⟩ := hΦ
  replace o1 := o1.ext hE
  refine s_ hf (r_assign hf rfl) fun a hf => ?_
  refine c_nt <| c_seq <| c_region ?_
  refine s_ hf (r_assign hf rfl) fun a hf => ?_
  refine c_nt <| c_seq <| c_region ?_
  refine s_ hf (r_load_agg ty48 hf rfl o1.cl rfl) fun a hf => ?_
  refine s_ hf (r_move hf rfl) fun a hf => ?_
  obtain ⟨x1, hx2, hF⟩ := of_bind hF
  refine st_fn 3 hw hf rfl rfl (by decide) (r_fn en34 hf rfl) (laws_szScheme_ok (a0 := a0) (h0.now hw) hx2) fun a v w ρ hf hw hE hN hΦ => ?_
  obtain rfl := hΦ
  replace o1 := o1.ext hE
  replace o2 := o2.ext hE
  refine s_ hf (r_assign hf rfl) fun a hf => ?_
  refine c_nt <| c_seq <| c_seq <| c_region ?_
  refine s_ hf (r_move hf rfl) fun a hf => ?_
  refine s_ hf (r_lss hf rfl rfl) fun a hf => ?_
  refine c_nt ?_
  rcases of_ite hF with ⟨hb3, hF⟩ | ⟨hb3, hF⟩
  · refine c_ift hf rfl hb3 <| c_seq <| c_region ?_
    refine s_ hf (r_assign hf rfl) fun a hf => ?_
    refine c_nt <| c_retc ?_
    obtain rfl := Option.some.inj hF
    refine r_then <| c_ret hf (res_tmp Try.results8 hf rfl) ?_
    exact ⟨_, rfl, hw.below, rfl⟩
  refine c_iff hf rfl hb3 <| c_skip <| n_then <| c_seq <| c_region ?_
  refine s_ hf (r_load_agg ty48 hf rfl o2.cl rfl) fun a hf => ?_
  refine s_ hf (r_move hf rfl) fun a hf => ?_
  obtain ⟨x4, hx5, hF⟩ := of_bind hF
  refine st_fn 4 hw hf rfl rfl (by decide) (r_fn en34 hf rfl) (laws_szScheme_ok (a0 := a1) (h1.now hw) hx5) fun a v w ρ hf hw hE hN hΦ => ?_
  obtain rfl := hΦ
  replace o1 := o1.ext hE
  replace o2 := o2.ext hE
  refine s_ hf (r_assign hf rfl) fun a hf => ?_
  refine c_nt <| c_seq <| c_seq <| c_region ?_
  refine s_ hf (r_move hf rfl) fun a hf => ?_
  refine s_ hf (r_lss hf rfl rfl) fun a hf => ?_
  refine c_nt ?_
  rcases of_ite hF with ⟨hb6, hF⟩ | ⟨hb6, hF⟩
  · refine c_ift hf rfl hb6 <| c_seq <| c_region ?_
    refine s_ hf (r_assign hf rfl) fun a hf => ?_
    refine c_nt <| c_retc ?_
    obtain rfl := Option.some.inj hF
    refine r_then <| c_ret hf (res_tmp Try.results8 hf rfl) ?_
    exact ⟨_, rfl, hw.below, rfl⟩
  refine c_iff hf rfl hb6 <| c_skip <| n_then <| c_seq ?_
  obtain ⟨x7, hx8, hF⟩ := of_bind hF
  obtain ⟨x11, hx12, hF⟩ := of_bind hF
  obtain ⟨x15, hx16, hF⟩ := of_bind hF
  replace hf : Fr 58 a [(2, .pointer (some ((⟨g1, 0, none⟩ : Addr).add 0))), (3, .pointer (some ((⟨g2, 0, none⟩ : Addr).add 0)))] := hf.sub ⟨rfl, rfl, trivial⟩
  refine c_drawL (h := 9) mixed (by kernel_rfl) (by kernel_rfl) (fun ρ w => Va ρ w 1 g1 48 ([vI a0.p, vI a0.n, vI a0.m, vI a0.k, va0]) ∧ Va ρ w 2 g2 48 ([vI a1.p, vI a1.n, vI a1.m, vI a1.k, va1])) ?_ [fun ρ w v => .agg ([vI a0.p, vI a0.n, vI a0.m, vI a0.k, va0]).toArray = v, fun ρ w v => ∃ u9, .agg ([vI x7.p, vI x7.n, vI x7.m, vI x7.k, u9]).toArray = v ∧ O82 ρ w w0 5 u9 x7.ps, fun ρ w v => .agg ([vI a1.p, vI a1.n, vI a1.m, vI a1.k, va1]).toArray = v, fun ρ w v => ∃ u13, .agg ([vI x11.p, vI x11.n, vI x11.m, vI x11.k, u13]).toArray = v ∧ O82 ρ w w0 6 u13 x11.ps, fun ρ w v => .tuple #[.bool x15.1, vI x15.2] = v, fun ρ w v => .tuple #[.bool x15.1, vI x15.2] = v, fun ρ w v => .bool x15.1 = v, fun ρ w v => vI x15.2 = v, fun ρ w v => .bool x15.1 = v] ?_ hw ⟨o1, o2⟩ hf ?_ ?_
  · intro ρ w ρ' w' hE hG
    obtain ⟨o1, o2⟩ := hG
    exact ⟨o1.ext hE, o2.ext hE⟩
  · exact LastsL.cons (fun _ _ _ _ _ _ h => h) <| LastsL.cons (fun _ _ _ _ _ hE h => by obtain ⟨u9, h, o5⟩ := h; exact ⟨_, h, o5.ext hE⟩) <| LastsL.cons (fun _ _ _ _ _ _ h => h) <| LastsL.cons (fun _ _ _ _ _ hE h => by obtain ⟨u13, h, o6⟩ := h; exact ⟨_, h, o6.ext hE⟩) <| LastsL.cons (fun _ _ _ _ _ _ h => h) <| LastsL.cons (fun _ _ _ _ _ _ h => h) <| LastsL.cons (fun _ _ _ _ _ _ h => h) <| LastsL.cons (fun _ _ _ _ _ _ h => h) <| LastsL.cons (fun _ _ _ _ _ _ h => h) <| LastsL.nil
  · refine StepsB.cons ?_ <| StepsB.cons ?_ <| StepsB.cons ?_ <| StepsB.cons ?_ <| StepsB.cons ?_ <| StepsB.cons ?_ <| StepsB.cons ?_ <| StepsB.cons ?_ <| StepsB.cons ?_ <| StepsB.nil
    · intro ρ w a hw hG hf hd K hK
      obtain ⟨o1, o2⟩ := hG
      exact dv_ hK hw (wn rfl) (r_load_agg ty48 hf rfl o1.cl rfl) rfl
    · intro ρ w a hw hG hf hd K hK
      obtain ⟨o1, o2⟩ := hG
      obtain ⟨_, hf, rfl⟩ := got (hd 0 (by kernel_rfl)) hf
      refine dc_ hK hw (wn rfl) (r_fn en36 hf rfl) (laws_toScheme_ok (a0 := a0) (h0.now hw) hx8) fun v w' hΦ => ?_
      obtain ⟨hb, hΦ⟩ := hΦ
      obtain ⟨u9, rfl, hr10⟩ := hΦ
      have hE := Ext.new (ρ := ρ) 5 hb
      have o5 := Fresh.own (ρ := ρ) (B := w0.heap.size) hr10 hw.below.size 5
      exact ⟨_, hw.new 5 hb, hE, ex_ <| an_ rfl <| o5⟩
    · intro ρ w a hw hG hf hd K hK
      obtain ⟨o1, o2⟩ := hG
      exact dv_ hK hw (wn rfl) (r_load_agg ty48 hf rfl o2.cl rfl) rfl
    · intro ρ w a hw hG hf hd K hK
      obtain ⟨o1, o2⟩ := hG
      obtain ⟨_, hf, rfl⟩ := got (hd 2 (by kernel_rfl)) hf
      refine dc_ hK hw (wn rfl) (r_fn en36 hf rfl) (laws_toScheme_ok (a0 := a1) (h1.now hw) hx12) fun v w' hΦ => ?_
      obtain ⟨hb, hΦ⟩ := hΦ
      obtain ⟨u13, rfl, hr14⟩ := hΦ
      have hE := Ext.new (ρ := ρ) 6 hb
      have o6 := Fresh.own (ρ := ρ) (B := w0.heap.size) hr14 hw.below.size 6
      exact ⟨_, hw.new 6 hb, hE, ex_ <| an_ rfl <| o6⟩
    · intro ρ w a hw hG hf hd K hK
      obtain ⟨o1, o2⟩ := hG
      obtain ⟨_, hf, ⟨u9, rfl, o5⟩⟩ := got (hd 1 (by kernel_rfl)) hf
      obtain ⟨_, hf, ⟨u13, rfl, o6⟩⟩ := got (hd 3 (by kernel_rfl)) hf
      refine dc_ hK hw (wn rfl) (r_fn en50 hf rfl) (spec_AreEquivalent_ok (a0 := x7) (a1 := x11) o5.ro o6.ro hx16) fun v w' hΦ => ?_
      obtain ⟨hb, hΦ⟩ := hΦ
      obtain rfl := hΦ
      have hE := Ext.new (ρ := ρ) 7 hb
      exact ⟨_, hw.new 7 hb, hE, rfl⟩
    · intro ρ w a hw hG hf hd K hK
      obtain ⟨o1, o2⟩ := hG
      obtain ⟨_, hf, rfl⟩ := got (hd 4 (by kernel_rfl)) hf
      exact dv_ hK hw (wn rfl) (r_move hf rfl) rfl
    · intro ρ w a hw hG hf hd K hK
      obtain ⟨o1, o2⟩ := hG
      obtain ⟨_, hf, rfl⟩ := got (hd 5 (by kernel_rfl)) hf
      exact dv_ hK hw (wn rfl) (r_extract hf rfl rfl) rfl
    · intro ρ w a hw hG hf hd K hK
      obtain ⟨o1, o2⟩ := hG
      obtain ⟨_, hf, rfl⟩ := got (hd 5 (by kernel_rfl)) hf
      exact dv_ hK hw (wn rfl) (r_extract hf rfl rfl) rfl
    · intro ρ w a hw hG hf hd K hK
      obtain ⟨o1, o2⟩ := hG
      obtain ⟨_, hf, rfl⟩ := got (hd 6 (by kernel_rfl)) hf
      exact dv_ hK hw (wn rfl) (r_assign hf rfl) rfl
  intro ρ w a hw hG hf hd
  obtain ⟨o1, o2⟩ := hG
  obtain ⟨_, hf, rfl⟩ := got (hd 7 (by decide)) hf
  obtain ⟨_, hf, rfl⟩ := got (hd 8 (by decide)) hf
  refine s_ hf (r_assign hf rfl) fun a hf => ?_
  refine c_nt <| c_seq <| c_region ?_
  refine s_ hf (r_load_agg ty48 hf rfl o1.cl rfl) fun a hf => ?_
  obtain ⟨x17, hx18, hF⟩ := of_bind hF
  refine st_fn 8 hw hf rfl rfl (by decide) (r_fn en36 hf rfl) (laws_toScheme_ok (a0 := a0) (h0.now hw) hx18) fun a v w ρ hf hw hE hN hΦ => ?_
  obtain ⟨u19, rfl, hr20⟩ := hΦ
  replace o1 := o1.ext hE
  replace o2 := o2.ext hE
  have o8 := hN hr20
  have o10 : Ow (kf cProd) 82 ρ w w0.heap.size 10 (.slice none 0 0) [] := Ow.nil _ _ _ _ _ _
  refine sx_ hf (r_alloc (cs := [vI 0, vI 0, vI 0, vI 0, (.slice none 0 0)]) 9 ze39 rfl hw) fun a v w hf hΦ => ?_
  obtain ⟨g9, ρ, rfl, hw, hE, o9⟩ := hΦ
  replace o1 := o1.ext hE
  replace o2 := o2.ext hE
  replace o8 := o8.ext hE
  replace o10 := o10.ext hE
  refine sk_ hf (r_store_w (cs' := [vI x17.p, vI x17.n, vI x17.m, vI x17.k, u19]) hw o9 (by decide) ty39 rfl rfl (one_sch o8.ro.one) hf rfl rfl rfl) fun a w hf hΦ => ?_
  obtain ⟨hw, hA, o9⟩ := hΦ
  replace o1 := o1.adv hA (by decide)
  replace o2 := o2.adv hA (by decide)
  replace o8 := o8.adv hA (by decide)
  replace o10 := o10.adv hA (by decide)
  refine c_nt <| c_seq <| c_region ?_
  refine s_ hf (r_load_agg ty48 hf rfl o2.cl rfl) fun a hf => ?_
  obtain ⟨x21, hx22, hF⟩ := of_bind hF
  refine st_fn 11 hw hf rfl rfl (by decide) (r_fn en36 hf rfl) (laws_toScheme_ok (a0 := a1) (h1.now hw) hx22) fun a v w ρ hf hw hE hN hΦ => ?_
  obtain ⟨u23, rfl, hr24⟩ := hΦ
  replace o1 := o1.ext hE
  replace o2 := o2.ext hE
  replace o8 := o8.ext hE
  replace o10 := o10.ext hE
  replace o9 := o9.ext hE
  have o11 := hN hr24
  have o13 : Ow (kf cProd) 82 ρ w w0.heap.size 13 (.slice none 0 0) [] := Ow.nil _ _ _ _ _ _
  refine sx_ hf (r_alloc (cs := [vI 0, vI 0, vI 0, vI 0, (.slice none 0 0)]) 12 ze39 rfl hw) fun a v w hf hΦ => ?_
  obtain ⟨g12, ρ, rfl, hw, hE, o12⟩ := hΦ
  replace o1 := o1.ext hE
  replace o2 := o2.ext hE
  replace o8 := o8.ext hE
  replace o10 := o10.ext hE
  replace o9 := o9.ext hE
  replace o11 := o11.ext hE
  replace o13 := o13.ext hE
  refine sk_ hf (r_store_w (cs' := [vI x21.p, vI x21.n, vI x21.m, vI x21.k, u23]) hw o12 (by decide) ty39 rfl rfl (one_sch o11.ro.one) hf rfl rfl rfl) fun a w hf hΦ => ?_
  obtain ⟨hw, hA, o12⟩ := hΦ
  replace o1 := o1.adv hA (by decide)
  replace o2 := o2.adv hA (by decide)
  replace o8 := o8.adv hA (by decide)
  replace o10 := o10.adv hA (by decide)
  replace o9 := o9.adv hA (by decide)
  replace o11 := o11.adv hA (by decide)
  replace o13 := o13.adv hA (by decide)
  refine c_nt <| c_seq <| c_region ?_
  refine s_ hf (r_load_agg ty39 hf rfl o9.cl rfl) fun a hf => ?_
  refine s_ hf (r_load_agg ty39 hf rfl o12.cl rfl) fun a hf => ?_
  obtain ⟨x25, hx26, hF⟩ := of_bind hF
  refine st_fn 14 hw hf rfl rfl (by decide) (r_fn en51 hf rfl) (impl_AreEquivalent_ok (a0 := x17) (a1 := x21) o8.ro o11.ro hx26) fun a v w ρ hf hw hE hN hΦ => ?_
  obtain rfl := hΦ
  replace o1 := o1.ext hE
  replace o2 := o2.ext hE
  replace o8 := o8.ext hE
  replace o10 := o10.ext hE
  replace o9 := o9.ext hE
  replace o11 := o11.ext hE
  replace o13 := o13.ext hE
  replace o12 := o12.ext hE
  refine s_ hf (r_move hf rfl) fun a hf => ?_
  refine s_ hf (r_extract hf rfl rfl) fun a hf => ?_
  refine s_ hf (r_extract hf rfl rfl) fun a hf => ?_
  refine s_ hf (r_assign hf rfl) fun a hf => ?_
  refine s_ hf (r_assign hf rfl) fun a hf => ?_
  refine c_nt <| c_seq <| c_seq ?_
  obtain ⟨s28, hT27, hG27⟩ := of_bind hF
  clear hF
  refine c_meet (fun (s28 : Bool) a w => ∃ ρ, Wd w0 ρ w ∧ Fr 58 a [(2, .pointer (some ((⟨g1, 0, none⟩ : Addr).add 0))), (3, .pointer (some ((⟨g2, 0, none⟩ : Addr).add 0))), (8, .pointer (some ((⟨g9, 0, none⟩ : Addr).add 0))), (9, .pointer (some ((⟨g12, 0, none⟩ : Addr).add 0))), (47, .bool s28)] ∧ Va ρ w 1 g1 48 ([vI a0.p, vI a0.n, vI a0.m, vI a0.k, va0]) ∧ Va ρ w 2 g2 48 ([vI a1.p, vI a1.n, vI a1.m, vI a1.k, va1]) ∧ O82 ρ w w0 8 u19 x17.ps ∧ Va ρ w 9 g9 39 ([vI x17.p, vI x17.n, vI x17.m, vI x17.k, u19]) ∧ O82 ρ w w0 11 u23 x21.ps ∧ Va ρ w 12 g12 39 ([vI x21.p, vI x21.n, vI x21.m, vI x21.k, u23])) s28 ?_ ?_
  · have hF := hT27
    refine c_region ?_
    refine s_ hf (r_move hf rfl) fun a hf => ?_
    refine s_ hf (r_move hf rfl) fun a hf => ?_
    refine s_ hf (r_neqb Try.underlying4 hf rfl rfl) fun a hf => ?_
    refine s_ hf (r_move hf rfl) fun a hf => ?_
    rcases of_ite hF with ⟨hb29, hF⟩ | ⟨hb29, hF⟩
    · refine st_no (b := true) hf rfl rfl rfl hb29 rfl (by decide) fun a hf => ?_
      refine st_no (b := true) hf rfl rfl rfl hb29 rfl (by decide) fun a hf => ?_
      refine st_no (b := true) hf rfl rfl rfl hb29 rfl (by decide) fun a hf => ?_
      refine s_ hf (r_pick (b := true) hf rfl hb29 rfl) fun a hf => ?_
      refine c_nil ⟨rfl, ?_⟩
      obtain rfl := Option.some.inj hF
      exact ⟨_, hw, hf.sub ⟨rfl, rfl, rfl, rfl, rfl, trivial⟩, o1, o2, o8, o9, o11, o12⟩
    refine st_g (b := false) hf rfl rfl rfl hb29 rfl (by decide) (r_move hf rfl) fun a hf => ?_
    refine st_g (b := false) hf rfl rfl rfl hb29 rfl (by decide) (r_move hf rfl) fun a hf => ?_
    refine st_g (b := false) hf rfl rfl rfl hb29 rfl (by decide) (r_neq hf rfl rfl) fun a hf => ?_
    refine s_ hf (r_pick (b := false) hf rfl hb29 rfl) fun a hf => ?_
    refine c_nil ⟨rfl, ?_⟩
    obtain rfl := Option.some.inj hF
    exact ⟨_, hw, hf.sub ⟨rfl, rfl, rfl, rfl, rfl, trivial⟩, o1, o2, o8, o9, o11, o12⟩
  rintro a w ⟨ρ, hw, hf, o1, o2, o8, o9, o11, o12⟩
  have hF := hG27
  refine n_then ?_
  rcases of_ite hF with ⟨hb30, hF⟩ | ⟨hb30, hF⟩
  · refine c_ift hf rfl hb30 <| c_seq <| c_region ?_
    refine s_ hf (r_assign hf rfl) fun a hf => ?_
    refine c_nt <| c_retc ?_
    obtain rfl := Option.some.inj hF
    refine r_then <| c_ret hf (res_tmp Try.results8 hf rfl) ?_
    exact ⟨_, rfl, hw.below, rfl⟩
  refine c_iff hf rfl hb30 <| c_skip <| n_then <| c_seq <| c_seq ?_
  obtain ⟨x31, hx32, hF⟩ := of_bind hF
  replace hf : Fr 58 a [(2, .pointer (some ((⟨g1, 0, none⟩ : Addr).add 0))), (3, .pointer (some ((⟨g2, 0, none⟩ : Addr).add 0))), (8, .pointer (some ((⟨g9, 0, none⟩ : Addr).add 0))), (9, .pointer (some ((⟨g12, 0, none⟩ : Addr).add 0)))] := hf.sub ⟨rfl, rfl, rfl, rfl, trivial⟩
  refine c_drawL (h := 3) mixed (by kernel_rfl) (by kernel_rfl) (fun ρ w => Va ρ w 1 g1 48 ([vI a0.p, vI a0.n, vI a0.m, vI a0.k, va0]) ∧ Va ρ w 2 g2 48 ([vI a1.p, vI a1.n, vI a1.m, vI a1.k, va1]) ∧ O82 ρ w w0 8 u19 x17.ps ∧ Va ρ w 9 g9 39 ([vI x17.p, vI x17.n, vI x17.m, vI x17.k, u19]) ∧ O82 ρ w w0 11 u23 x21.ps ∧ Va ρ w 12 g12 39 ([vI x21.p, vI x21.n, vI x21.m, vI x21.k, u23])) ?_ [fun ρ w v => .agg ([vI x17.p, vI x17.n, vI x17.m, vI x17.k, u19]).toArray = v, fun ρ w v => .agg ([vI a0.p, vI a0.n, vI a0.m, vI a0.k, va0]).toArray = v, fun ρ w v => ∃ u33, .agg ([vI x31.p, vI x31.n, vI x31.m, vI x31.k, u33]).toArray = v ∧ O82 ρ w w0 15 u33 x31.ps] ?_ hw ⟨o1, o2, o8, o9, o11, o12⟩ hf ?_ ?_
  · intro ρ w ρ' w' hE hG
    obtain ⟨o1, o2, o8, o9, o11, o12⟩ := hG
    exact ⟨o1.ext hE, o2.ext hE, o8.ext hE, o9.ext hE, o11.ext hE, o12.ext hE⟩
  · exact LastsL.cons (fun _ _ _ _ _ _ h => h) <| LastsL.cons (fun _ _ _ _ _ _ h => h) <| LastsL.cons (fun _ _ _ _ _ hE h => by obtain ⟨u33, h, o15⟩ := h; exact ⟨_, h, o15.ext hE⟩) <| LastsL.nil
  · refine StepsB.cons ?_ <| StepsB.cons ?_ <| StepsB.cons ?_ <| StepsB.nil
    · intro ρ w a hw hG hf hd K hK
      obtain ⟨o1, o2, o8, o9, o11, o12⟩ := hG
      exact dv_ hK hw (wn rfl) (r_load_agg ty39 hf rfl o9.cl rfl) rfl
    · intro ρ w a hw hG hf hd K hK
      obtain ⟨o1, o2, o8, o9, o11, o12⟩ := hG
      exact dv_ hK hw (wn rfl) (r_load_agg ty48 hf rfl o1.cl rfl) rfl
    · intro ρ w a hw hG hf hd K hK
      obtain ⟨o1, o2, o8, o9, o11, o12⟩ := hG
      obtain ⟨_, hf, rfl⟩ := got (hd 1 (by kernel_rfl)) hf
      refine dc_ hK hw (wn rfl) (r_fn en36 hf rfl) (laws_toScheme_ok (a0 := a0) (h0.now hw) hx32) fun v w' hΦ => ?_
      obtain ⟨hb, hΦ⟩ := hΦ
      obtain ⟨u33, rfl, hr34⟩ := hΦ
      have hE := Ext.new (ρ := ρ) 15 hb
      have o15 := Fresh.own (ρ := ρ) (B := w0.heap.size) hr34 hw.below.size 15
      exact ⟨_, hw.new 15 hb, hE, ex_ <| an_ rfl <| o15⟩
  intro ρ w a hw hG hf hd
  obtain ⟨o1, o2, o8, o9, o11, o12⟩ := hG
  obtain ⟨_, hf, rfl⟩ := got (hd 0 (by decide)) hf
  obtain ⟨_, hf, ⟨u33, rfl, o15⟩⟩ := got (hd 2 (by decide)) hf
  obtain ⟨x35, hx36, hF⟩ := of_bind hF
  refine st_fn 16 hw hf rfl rfl (by decide) (r_fn en39 hf rfl) (laws_eqScheme_ok (a0 := x17) (a1 := x31) o8.ro o15.ro hx36) fun a v w ρ hf hw hE hN hΦ => ?_
  obtain rfl := hΦ
  replace o1 := o1.ext hE
  replace o2 := o2.ext hE
  replace o8 := o8.ext hE
  replace o9 := o9.ext hE
  replace o11 := o11.ext hE
  replace o12 := o12.ext hE
  replace o15 := o15.ext hE
  refine s_ hf (r_not hf rfl) fun a hf => ?_
  refine c_nt ?_
  rcases of_ite hF with ⟨hb37, hF⟩ | ⟨hb37, hF⟩
  · refine c_ift hf rfl hb37 <| c_seq <| c_region ?_
    refine s_ hf (r_assign hf rfl) fun a hf => ?_
    refine c_nt <| c_retc ?_
    obtain rfl := Option.some.inj hF
    refine r_then <| c_ret hf (res_tmp Try.results8 hf rfl) ?_
    exact ⟨_, rfl, hw.below, rfl⟩
  refine c_iff hf rfl hb37 <| c_skip <| n_then <| c_seq <| c_seq ?_
  obtain ⟨x38, hx39, hF⟩ := of_bind hF
  replace hf : Fr 58 a [(3, .pointer (some ((⟨g2, 0, none⟩ : Addr).add 0))), (9, .pointer (some ((⟨g12, 0, none⟩ : Addr).add 0)))] := hf.sub ⟨rfl, rfl, trivial⟩
  refine c_drawL (h := 3) mixed (by kernel_rfl) (by kernel_rfl) (fun ρ w => Va ρ w 2 g2 48 ([vI a1.p, vI a1.n, vI a1.m, vI a1.k, va1]) ∧ O82 ρ w w0 11 u23 x21.ps ∧ Va ρ w 12 g12 39 ([vI x21.p, vI x21.n, vI x21.m, vI x21.k, u23])) ?_ [fun ρ w v => .agg ([vI x21.p, vI x21.n, vI x21.m, vI x21.k, u23]).toArray = v, fun ρ w v => .agg ([vI a1.p, vI a1.n, vI a1.m, vI a1.k, va1]).toArray = v, fun ρ w v => ∃ u40, .agg ([vI x38.p, vI x38.n, vI x38.m, vI x38.k, u40]).toArray = v ∧ O82 ρ w w0 17 u40 x38.ps] ?_ hw ⟨o2, o11, o12⟩ hf ?_ ?_
  · intro ρ w ρ' w' hE hG
    obtain ⟨o2, o11, o12⟩ := hG
    exact ⟨o2.ext hE, o11.ext hE, o12.ext hE⟩
  · exact LastsL.cons (fun _ _ _ _ _ _ h => h) <| LastsL.cons (fun _ _ _ _ _ _ h => h) <| LastsL.cons (fun _ _ _ _ _ hE h => by obtain ⟨u40, h, o17⟩ := h; exact ⟨_, h, o17.ext hE⟩) <| LastsL.nil
  · refine StepsB.cons ?_ <| StepsB.cons ?_ <| StepsB.cons ?_ <| StepsB.nil
    · intro ρ w a hw hG hf hd K hK
      obtain ⟨o2, o11, o12⟩ := hG
      exact dv_ hK hw (wn rfl) (r_load_agg ty39 hf rfl o12.cl rfl) rfl
    · intro ρ w a hw hG hf hd K hK
      obtain ⟨o2, o11, o12⟩ := hG
      exact dv_ hK hw (wn rfl) (r_load_agg ty48 hf rfl o2.cl rfl) rfl
    · intro ρ w a hw hG hf hd K hK
      obtain ⟨o2, o11, o12⟩ := hG
      obtain ⟨_, hf, rfl⟩ := got (hd 1 (by kernel_rfl)) hf
      refine dc_ hK hw (wn rfl) (r_fn en36 hf rfl) (laws_toScheme_ok (a0 := a1) (h1.now hw) hx39) fun v w' hΦ => ?_
      obtain ⟨hb, hΦ⟩ := hΦ
      obtain ⟨u40, rfl, hr41⟩ := hΦ
      have hE := Ext.new (ρ := ρ) 17 hb
      have o17 := Fresh.own (ρ := ρ) (B := w0.heap.size) hr41 hw.below.size 17
      exact ⟨_, hw.new 17 hb, hE, ex_ <| an_ rfl <| o17⟩
  intro ρ w a hw hG hf hd
  obtain ⟨o2, o11, o12⟩ := hG
  obtain ⟨_, hf, rfl⟩ := got (hd 0 (by decide)) hf
  obtain ⟨_, hf, ⟨u40, rfl, o17⟩⟩ := got (hd 2 (by decide)) hf
  obtain ⟨x42, hx43, hF⟩ := of_bind hF
  refine st_fn 18 hw hf rfl rfl (by decide) (r_fn en39 hf rfl) (laws_eqScheme_ok (a0 := x21) (a1 := x38) o11.ro o17.ro hx43) fun a v w ρ hf hw hE hN hΦ => ?_
  obtain rfl := hΦ
  replace o2 := o2.ext hE
  replace o11 := o11.ext hE
  replace o12 := o12.ext hE
  replace o17 := o17.ext hE
  refine s_ hf (r_not hf rfl) fun a hf => ?_
  refine c_nt ?_
  rcases of_ite hF with ⟨hb44, hF⟩ | ⟨hb44, hF⟩
  · refine c_ift hf rfl hb44 <| c_seq <| c_region ?_
    refine s_ hf (r_assign hf rfl) fun a hf => ?_
    refine c_nt <| c_retc ?_
    obtain rfl := Option.some.inj hF
    refine r_then <| c_ret hf (res_tmp Try.results8 hf rfl) ?_
    exact ⟨_, rfl, hw.below, rfl⟩
  refine c_iff hf rfl hb44 <| c_skip <| n_then <| c_seq <| c_region ?_
  refine s_ hf (r_assign hf rfl) fun a hf => ?_
  refine c_nt <| c_retc ?_
  obtain rfl := Option.some.inj hF
  refine c_ret hf (res_tmp Try.results8 hf rfl) ?_
  exact ⟨_, rfl, hw.below, rfl⟩
end Go.Proofs.YtB
