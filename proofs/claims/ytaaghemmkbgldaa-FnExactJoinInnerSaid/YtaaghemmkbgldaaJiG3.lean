/- Functions of the program as plain functions, and that they compute these. Printed by gen.py. -/
import Derived.Test.YtaaghemmkbgldaaJiG2
set_option linter.unusedVariables false
set_option linter.unusedSimpArgs false
set_option maxRecDepth 4000
set_option maxHeartbeats 1000000
namespace Go.Proofs.YtB
open Go Go.RowKit Go.Proofs Go.Proofs.YtaaghemmkbgldaaW.PrintWords
/-! f4 -/
noncomputable def laws_FnExactJoinInner (a0 : Sch) (a1 : Sch) : Option Bool :=
  (laws_szScheme a0 1048576).bind fun x1 => if (decide (x1 < 0)) = true then (some (true)) else ((laws_szScheme a1 x1).bind fun x4 => if (decide (x4 < 0)) = true then (some (true)) else ((laws_toScheme a0).bind fun x7 => (laws_toScheme a1).bind fun x11 => (spec_JoinInner x7 x11).bind fun x15 => (laws_toScheme a0).bind fun x19 => (laws_toScheme a1).bind fun x23 => (impl_JoinInner x19 x23).bind fun x27 => ((laws_eqScheme x27.1 x15.1).bind fun x33 => if (!x33) = true then (some true) else (some (decide (x27.2 ≠ x15.2)))).bind fun (s32 : Bool) => if s32 = true then (some (false)) else ((laws_toScheme a0).bind fun x37 => (laws_eqScheme x19 x37).bind fun x41 => if (!x41) = true then (some (false)) else ((laws_toScheme a1).bind fun x44 => (laws_eqScheme x23 x44).bind fun x48 => if (!x48) = true then (some (false)) else ((laws_markScheme x19 1).bind fun x51 => (laws_markScheme x23 x51.1).bind fun x53 => (if (decide (x53.1 < 0)) = true then (some true) else ((laws_eqScheme x27.1 x15.1).bind fun x58 => if (!x58) = true then (some true) else (some (decide (x27.2 ≠ x15.2))))).bind fun (s56 : Bool) => if s56 = true then (some (false)) else ((laws_markScheme x27.1 1).bind fun x62 => (laws_heldScheme (⟨x27.1.p, x27.1.n, x27.1.m, x27.1.k, x62.2⟩ : Sch) 1).bind fun x64 => if (decide (x64 < 0)) = true then (some (false)) else (if (decide (x64 ≠ x62.1)) = true then (some (false)) else ((laws_toScheme a0).bind fun x68 => (laws_toScheme a1).bind fun x72 => (impl_JoinInner x68 x72).bind fun x76 => ((laws_eqScheme x76.1 x15.1).bind fun x82 => if (!x82) = true then (some true) else (some (decide (x76.2 ≠ x15.2)))).bind fun (s81 : Bool) => if s81 = true then (some (false)) else ((laws_heldScheme (⟨x27.1.p, x27.1.n, x27.1.m, x27.1.k, x62.2⟩ : Sch) 1).bind fun x86 => if (decide (x86 < 0)) = true then (some (false)) else (if (decide (x86 ≠ x62.1)) = true then (some (false)) else (some (true))))))))))))
theorem laws_FnExactJoinInner_ok {w0 : World} {a0 : Sch} {a1 : Sch} {va0 : Value} {va1 : Value} (h0 : Ro (kf cProd) w0 va0 a0.ps) (h1 : Ro (kf cProd) w0 va1 a1.ps) {r : Bool} (hF : laws_FnExactJoinInner a0 a1 = some r) :
    Calls Try.prog 4 [.agg ([.int .i64 a0.p, .int .i64 a0.n, .int .i64 a0.m, .int .i64 a0.k, va0]).toArray, .agg ([.int .i64 a1.p, .int .i64 a1.n, .int .i64 a1.m, .int .i64 a1.k, va1]).toArray].toArray w0 fun e w => ∃ v, e = .returned v ∧ Below w0.heap.size w0 w ∧ .bool r = v := by
  refine calls_of (k := 119) Try.func4 rfl rfl (Nat.le_of_ble_eq_true rfl) fun a hf => ?_
  replace hf : Fr 119 a [(0, .agg ([.int .i64 a0.p, .int .i64 a0.n, .int .i64 a0.m, .int .i64 a0.k, va0]).toArray), (1, .agg ([.int .i64 a1.p, .int .i64 a1.n, .int .i64 a1.m, .int .i64 a1.k, va1]).toArray)] := hf
  refine c_start fun w ρ hw => ?_
  unfold laws_FnExactJoinInner at hF
  refine c_seq ?_
  refine c_region ?_
  refine st_ex hf rfl rfl (by decide) (r_box (cs := [.int .i64 a0.p, .int .i64 a0.n, .int .i64 a0.m, .int .i64 a0.k, va0]) 1 hw hf rfl rfl) fun a v w hf hΦ => ?_
  obtain ⟨g1, ρ, rfl, hw, hE, o1⟩ := hΦ
  refine st_ex hf rfl rfl (by decide) (r_box (cs := [.int .i64 a1.p, .int .i64 a1.n, .int .i64 a1.m, .int .i64 a1.k, va1]) 2 hw hf rfl rfl) fun a v w hf hΦ => ?_
  obtain ⟨g2, ρ, rfl, hw, hE, o2⟩ := hΦ
  replace o1 := o1.ext hE
  refine st hf rfl rfl (by decide) (r_assign hf rfl) fun a hf => ?_
  refine c_nt ?_
  refine c_seq ?_
  refine c_region ?_
  refine st hf rfl rfl (by decide) (r_assign hf rfl) fun a hf => ?_
  refine c_nt ?_
  refine c_seq ?_
  refine c_region ?_
  refine st hf rfl rfl (by decide) (r_load_agg ty24 hf rfl o1.cl rfl) fun a hf => ?_
  refine st hf rfl rfl (by decide) (r_move hf rfl) fun a hf => ?_
  obtain ⟨x1, hx2, hF⟩ := of_bind hF
  refine st_fn 3 hw hf rfl rfl (by decide) (r_fn en13 hf rfl) (laws_szScheme_ok (a0 := a0) (h0.now hw) hx2) fun a v w ρ hf hw hE hN hΦ => ?_
  obtain rfl := hΦ
  replace o1 := o1.ext hE
  replace o2 := o2.ext hE
  refine st hf rfl rfl (by decide) (r_assign hf rfl) fun a hf => ?_
  refine c_nt ?_
  refine c_seq ?_
  refine c_seq ?_
  refine c_region ?_
  refine st hf rfl rfl (by decide) (r_move hf rfl) fun a hf => ?_
  refine st hf rfl rfl (by decide) (r_lss hf rfl rfl) fun a hf => ?_
  refine c_nt ?_
  rcases of_ite hF with ⟨hb3, hF⟩ | ⟨hb3, hF⟩
  · refine c_ift hf rfl hb3 ?_
    refine c_seq ?_
    refine c_region ?_
    refine st hf rfl rfl (by decide) (r_assign hf rfl) fun a hf => ?_
    refine c_nt ?_
    refine c_retc ?_
    obtain rfl := Option.some.inj hF
    refine r_then ?_
    refine c_ret hf (res_tmp Try.results4 hf rfl) ?_
    exact ⟨_, rfl, hw.below, rfl⟩
  · refine c_iff hf rfl hb3 ?_
    refine c_skip ?_
    refine n_then ?_
    refine c_seq ?_
    refine c_region ?_
    refine st hf rfl rfl (by decide) (r_load_agg ty24 hf rfl o2.cl rfl) fun a hf => ?_
    refine st hf rfl rfl (by decide) (r_move hf rfl) fun a hf => ?_
    obtain ⟨x4, hx5, hF⟩ := of_bind hF
    refine st_fn 4 hw hf rfl rfl (by decide) (r_fn en13 hf rfl) (laws_szScheme_ok (a0 := a1) (h1.now hw) hx5) fun a v w ρ hf hw hE hN hΦ => ?_
    obtain rfl := hΦ
    replace o1 := o1.ext hE
    replace o2 := o2.ext hE
    refine st hf rfl rfl (by decide) (r_assign hf rfl) fun a hf => ?_
    refine c_nt ?_
    refine c_seq ?_
    refine c_seq ?_
    refine c_region ?_
    refine st hf rfl rfl (by decide) (r_move hf rfl) fun a hf => ?_
    refine st hf rfl rfl (by decide) (r_lss hf rfl rfl) fun a hf => ?_
    refine c_nt ?_
    rcases of_ite hF with ⟨hb6, hF⟩ | ⟨hb6, hF⟩
    · refine c_ift hf rfl hb6 ?_
      refine c_seq ?_
      refine c_region ?_
      refine st hf rfl rfl (by decide) (r_assign hf rfl) fun a hf => ?_
      refine c_nt ?_
      refine c_retc ?_
      obtain rfl := Option.some.inj hF
      refine r_then ?_
      refine c_ret hf (res_tmp Try.results4 hf rfl) ?_
      exact ⟨_, rfl, hw.below, rfl⟩
    · refine c_iff hf rfl hb6 ?_
      refine c_skip ?_
      refine n_then ?_
      refine c_seq ?_
      obtain ⟨x7, hx8, hF⟩ := of_bind hF
      obtain ⟨x11, hx12, hF⟩ := of_bind hF
      obtain ⟨x15, hx16, hF⟩ := of_bind hF
      replace hf : Fr 119 a [(2, .pointer (some ((⟨g1, 0, none⟩ : Addr).add 0))), (3, .pointer (some ((⟨g2, 0, none⟩ : Addr).add 0)))] := hf.sub ⟨rfl, rfl, trivial⟩
      refine c_stage 10 [9] mixed (by kernel_rfl) (by kernel_rfl) (fun c ρ w => Va ρ w 1 g1 24 ([.int .i64 a0.p, .int .i64 a0.n, .int .i64 a0.m, .int .i64 a0.k, va0]) ∧ Va ρ w 2 g2 24 ([.int .i64 a1.p, .int .i64 a1.n, .int .i64 a1.m, .int .i64 a1.k, va1])) ?_ [fun c ρ w v => .agg ([.int .i64 a0.p, .int .i64 a0.n, .int .i64 a0.m, .int .i64 a0.k, va0]).toArray = v, fun c ρ w v => ∃ u9, .agg ([.int .i64 x7.p, .int .i64 x7.n, .int .i64 x7.m, .int .i64 x7.k, u9]).toArray = v ∧ Ow (kf cProd) 78 ρ w w0.heap.size 5 u9 x7.ps, fun c ρ w v => .agg ([.int .i64 a1.p, .int .i64 a1.n, .int .i64 a1.m, .int .i64 a1.k, va1]).toArray = v, fun c ρ w v => ∃ u13, .agg ([.int .i64 x11.p, .int .i64 x11.n, .int .i64 x11.m, .int .i64 x11.k, u13]).toArray = v ∧ Ow (kf cProd) 78 ρ w w0.heap.size 6 u13 x11.ps, fun c ρ w v => ∃ u17, .tuple #[.agg ([.int .i64 x15.1.p, .int .i64 x15.1.n, .int .i64 x15.1.m, .int .i64 x15.1.k, u17]).toArray, .int .i64 x15.2] = v ∧ Ow (kf cProd) 78 ρ w w0.heap.size 7 u17 x15.1.ps, fun c ρ w v => ∃ u17, .tuple #[.agg ([.int .i64 x15.1.p, .int .i64 x15.1.n, .int .i64 x15.1.m, .int .i64 x15.1.k, u17]).toArray, .int .i64 x15.2] = v ∧ Ow (kf cProd) 78 ρ w w0.heap.size 7 u17 x15.1.ps, fun c ρ w v => ∃ u17, .agg ([.int .i64 x15.1.p, .int .i64 x15.1.n, .int .i64 x15.1.m, .int .i64 x15.1.k, u17]).toArray = v ∧ Ow (kf cProd) 78 ρ w w0.heap.size 7 u17 x15.1.ps, fun c ρ w v => .int .i64 x15.2 = v, fun c ρ w v => ∃ g8, .pointer (some ((⟨g8, 0, none⟩ : Addr).add 0)) = v ∧ (c ≤ 0 → Va ρ w 8 g8 28 ([.int .i64 0, .int .i64 0, .int .i64 0, .int .i64 0, (.slice none 0 0)])) ∧ (0 < c → ∃ u17, Va ρ w 8 g8 28 ([.int .i64 x15.1.p, .int .i64 x15.1.n, .int .i64 x15.1.m, .int .i64 x15.1.k, u17]) ∧ Ow (kf cProd) 78 ρ w w0.heap.size 7 u17 x15.1.ps), fun _ _ _ _ => True] ?_ hw ⟨o1, o2⟩ hf ?_ ?_
      · intro c ρ w ρ' w' hE hG
        obtain ⟨o1, o2⟩ := hG
        exact ⟨o1.ext hE, o2.ext hE⟩
      · exact LastsS.cons (fun _ _ _ _ _ _ _ h => h) <| LastsS.cons (fun c _ _ _ _ _ hE h => by obtain ⟨u9, h, o5⟩ := h; exact ⟨_, h, o5.ext hE⟩) <| LastsS.cons (fun _ _ _ _ _ _ _ h => h) <| LastsS.cons (fun c _ _ _ _ _ hE h => by obtain ⟨u13, h, o6⟩ := h; exact ⟨_, h, o6.ext hE⟩) <| LastsS.cons (fun c _ _ _ _ _ hE h => by obtain ⟨u17, h, o7⟩ := h; exact ⟨_, h, o7.ext hE⟩) <| LastsS.cons (fun c _ _ _ _ _ hE h => by obtain ⟨u17, h, o7⟩ := h; exact ⟨_, h, o7.ext hE⟩) <| LastsS.cons (fun c _ _ _ _ _ hE h => by obtain ⟨u17, h, o7⟩ := h; exact ⟨_, h, o7.ext hE⟩) <| LastsS.cons (fun _ _ _ _ _ _ _ h => h) <| LastsS.cons (fun c _ _ _ _ _ hE h => by obtain ⟨g8, h, hx, hy⟩ := h; exact ⟨_, h, fun h => (hx h).ext hE, (fun h => by obtain ⟨u17, o8, o7⟩ := hy h; exact ⟨_, o8.ext hE, o7.ext hE⟩)⟩) <| LastsS.cons (fun _ _ _ _ _ _ _ h => h) <| LastsS.nil
      · refine StepsS.float rfl ?_ <| StepsS.float rfl ?_ <| StepsS.float rfl ?_ <| StepsS.float rfl ?_ <| StepsS.float rfl ?_ <| StepsS.float rfl ?_ <| StepsS.float rfl ?_ <| StepsS.float rfl ?_ <| StepsS.float rfl ?_ <| StepsS.main 0 rfl rfl ?_ <| StepsS.nil
        · intro c ρ w a hs hw hG hf hd K hK
          obtain ⟨o1, o2⟩ := hG
          exact d_val (R := fun ρ w v => .agg ([.int .i64 a0.p, .int .i64 a0.n, .int .i64 a0.m, .int .i64 a0.k, va0]).toArray = v) hw (wn rfl) (r_load_agg ty24 hf rfl o1.cl rfl) rfl rfl hK
        · intro c ρ w a hs hw hG hf hd K hK
          obtain ⟨o1, o2⟩ := hG
          obtain ⟨_, ht0, rfl⟩ := hd 0 (by kernel_rfl) (by kernel_rfl)
          replace hf := hf.more ht0
          refine d_call (R := fun ρ w v => ∃ u9, .agg ([.int .i64 x7.p, .int .i64 x7.n, .int .i64 x7.m, .int .i64 x7.k, u9]).toArray = v ∧ Ow (kf cProd) 78 ρ w w0.heap.size 5 u9 x7.ps) hw (wn rfl) (r_fn en15 hf rfl) (laws_toScheme_ok (a0 := a0) (h0.now hw) hx8) rfl (fun v w' hΦ => ?_) hK
          obtain ⟨hb, hΦ⟩ := hΦ
          obtain ⟨u9, rfl, hr10⟩ := hΦ
          have hE := Ext.new (ρ := ρ) 5 hb
          have o5 := Fresh.own (ρ := ρ) (B := w0.heap.size) hr10 hw.below.size 5
          exact ⟨_, hw.new 5 hb, hE, _, rfl, o5⟩
        · intro c ρ w a hs hw hG hf hd K hK
          obtain ⟨o1, o2⟩ := hG
          exact d_val (R := fun ρ w v => .agg ([.int .i64 a1.p, .int .i64 a1.n, .int .i64 a1.m, .int .i64 a1.k, va1]).toArray = v) hw (wn rfl) (r_load_agg ty24 hf rfl o2.cl rfl) rfl rfl hK
        · intro c ρ w a hs hw hG hf hd K hK
          obtain ⟨o1, o2⟩ := hG
          obtain ⟨_, ht2, rfl⟩ := hd 2 (by kernel_rfl) (by kernel_rfl)
          replace hf := hf.more ht2
          refine d_call (R := fun ρ w v => ∃ u13, .agg ([.int .i64 x11.p, .int .i64 x11.n, .int .i64 x11.m, .int .i64 x11.k, u13]).toArray = v ∧ Ow (kf cProd) 78 ρ w w0.heap.size 6 u13 x11.ps) hw (wn rfl) (r_fn en15 hf rfl) (laws_toScheme_ok (a0 := a1) (h1.now hw) hx12) rfl (fun v w' hΦ => ?_) hK
          obtain ⟨hb, hΦ⟩ := hΦ
          obtain ⟨u13, rfl, hr14⟩ := hΦ
          have hE := Ext.new (ρ := ρ) 6 hb
          have o6 := Fresh.own (ρ := ρ) (B := w0.heap.size) hr14 hw.below.size 6
          exact ⟨_, hw.new 6 hb, hE, _, rfl, o6⟩
        · intro c ρ w a hs hw hG hf hd K hK
          obtain ⟨o1, o2⟩ := hG
          obtain ⟨_, ht1, ⟨u9, rfl, o5⟩⟩ := hd 1 (by kernel_rfl) (by kernel_rfl)
          replace hf := hf.more ht1
          obtain ⟨_, ht3, ⟨u13, rfl, o6⟩⟩ := hd 3 (by kernel_rfl) (by kernel_rfl)
          replace hf := hf.more ht3
          refine d_call (R := fun ρ w v => ∃ u17, .tuple #[.agg ([.int .i64 x15.1.p, .int .i64 x15.1.n, .int .i64 x15.1.m, .int .i64 x15.1.k, u17]).toArray, .int .i64 x15.2] = v ∧ Ow (kf cProd) 78 ρ w w0.heap.size 7 u17 x15.1.ps) hw (wn rfl) (r_fn en20 hf rfl) (spec_JoinInner_ok (a0 := x7) (a1 := x11) o5.ro o6.ro hx16) rfl (fun v w' hΦ => ?_) hK
          obtain ⟨hb, hΦ⟩ := hΦ
          obtain ⟨u17, rfl, hr18⟩ := hΦ
          have hE := Ext.new (ρ := ρ) 7 hb
          have o7 := Fresh.own (ρ := ρ) (B := w0.heap.size) hr18 hw.below.size 7
          exact ⟨_, hw.new 7 hb, hE, _, rfl, o7⟩
        · intro c ρ w a hs hw hG hf hd K hK
          obtain ⟨o1, o2⟩ := hG
          obtain ⟨_, ht4, ⟨u17, rfl, o7⟩⟩ := hd 4 (by kernel_rfl) (by kernel_rfl)
          replace hf := hf.more ht4
          exact d_val (R := fun ρ w v => ∃ u17, .tuple #[.agg ([.int .i64 x15.1.p, .int .i64 x15.1.n, .int .i64 x15.1.m, .int .i64 x15.1.k, u17]).toArray, .int .i64 x15.2] = v ∧ Ow (kf cProd) 78 ρ w w0.heap.size 7 u17 x15.1.ps) hw (wn rfl) (r_move hf rfl) rfl ⟨_, rfl, o7⟩ hK
        · intro c ρ w a hs hw hG hf hd K hK
          obtain ⟨o1, o2⟩ := hG
          obtain ⟨_, ht5, ⟨u17, rfl, o7⟩⟩ := hd 5 (by kernel_rfl) (by kernel_rfl)
          replace hf := hf.more ht5
          exact d_val (R := fun ρ w v => ∃ u17, .agg ([.int .i64 x15.1.p, .int .i64 x15.1.n, .int .i64 x15.1.m, .int .i64 x15.1.k, u17]).toArray = v ∧ Ow (kf cProd) 78 ρ w w0.heap.size 7 u17 x15.1.ps) hw (wn rfl) (r_extract hf rfl rfl) rfl ⟨_, rfl, o7⟩ hK
        · intro c ρ w a hs hw hG hf hd K hK
          obtain ⟨o1, o2⟩ := hG
          obtain ⟨_, ht5, ⟨u17, rfl, o7⟩⟩ := hd 5 (by kernel_rfl) (by kernel_rfl)
          replace hf := hf.more ht5
          exact d_val (R := fun ρ w v => .int .i64 x15.2 = v) hw (wn rfl) (r_extract hf rfl rfl) rfl rfl hK
        · intro c ρ w a hs hw hG hf hd K hK
          obtain ⟨o1, o2⟩ := hG
          have o9 : Ow (kf cProd) 78 ρ w w0.heap.size 9 (.slice none 0 0) [] := Ow.nil _ _ _ _ _ _
          refine d_ex (R := fun ρ w v => ∃ g8, .pointer (some ((⟨g8, 0, none⟩ : Addr).add 0)) = v ∧ (c ≤ 0 → Va ρ w 8 g8 28 ([.int .i64 0, .int .i64 0, .int .i64 0, .int .i64 0, (.slice none 0 0)])) ∧ (0 < c → ∃ u17, Va ρ w 8 g8 28 ([.int .i64 x15.1.p, .int .i64 x15.1.n, .int .i64 x15.1.m, .int .i64 x15.1.k, u17]) ∧ Ow (kf cProd) 78 ρ w w0.heap.size 7 u17 x15.1.ps)) hw (wn rfl) (r_alloc (cs := [.int .i64 0, .int .i64 0, .int .i64 0, .int .i64 0, (.slice none 0 0)]) 8 ze28 rfl hw) rfl (fun v w' hΦ => ?_) hK
          obtain ⟨g8, ρ, rfl, hw, hE, o8⟩ := hΦ
          exact ⟨_, hw, hE, _, rfl, fun _ => o8, fun hc => absurd (hs 0 (by decide) (by kernel_rfl)) (Nat.not_le_of_lt hc)⟩
        · intro ρ w a S hw hG hf hS hdep hSi K hK
          obtain ⟨o1, o2⟩ := hG
          have hfL := hf
          obtain ⟨_, ht6, ⟨u17, rfl, o7⟩⟩ := hS 6 (by decide) (hdep 6 (by kernel_rfl)) (by kernel_rfl)
          replace hf := hf.more ht6
          obtain ⟨_, ht8, g8, rfl, hx8, hy8⟩ := hS 8 (by decide) (hdep 8 (by kernel_rfl)) (by kernel_rfl)
          have o8 := hx8 (by decide)
          replace hf := hf.more ht8
          refine m_skip (Γ := fun c ρ w => Va ρ w 1 g1 24 ([.int .i64 a0.p, .int .i64 a0.n, .int .i64 a0.m, .int .i64 a0.k, va0]) ∧ Va ρ w 2 g2 24 ([.int .i64 a1.p, .int .i64 a1.n, .int .i64 a1.m, .int .i64 a1.k, va1])) (Rl := [fun c ρ w v => .agg ([.int .i64 a0.p, .int .i64 a0.n, .int .i64 a0.m, .int .i64 a0.k, va0]).toArray = v, fun c ρ w v => ∃ u9, .agg ([.int .i64 x7.p, .int .i64 x7.n, .int .i64 x7.m, .int .i64 x7.k, u9]).toArray = v ∧ Ow (kf cProd) 78 ρ w w0.heap.size 5 u9 x7.ps, fun c ρ w v => .agg ([.int .i64 a1.p, .int .i64 a1.n, .int .i64 a1.m, .int .i64 a1.k, va1]).toArray = v, fun c ρ w v => ∃ u13, .agg ([.int .i64 x11.p, .int .i64 x11.n, .int .i64 x11.m, .int .i64 x11.k, u13]).toArray = v ∧ Ow (kf cProd) 78 ρ w w0.heap.size 6 u13 x11.ps, fun c ρ w v => ∃ u17, .tuple #[.agg ([.int .i64 x15.1.p, .int .i64 x15.1.n, .int .i64 x15.1.m, .int .i64 x15.1.k, u17]).toArray, .int .i64 x15.2] = v ∧ Ow (kf cProd) 78 ρ w w0.heap.size 7 u17 x15.1.ps, fun c ρ w v => ∃ u17, .tuple #[.agg ([.int .i64 x15.1.p, .int .i64 x15.1.n, .int .i64 x15.1.m, .int .i64 x15.1.k, u17]).toArray, .int .i64 x15.2] = v ∧ Ow (kf cProd) 78 ρ w w0.heap.size 7 u17 x15.1.ps, fun c ρ w v => ∃ u17, .agg ([.int .i64 x15.1.p, .int .i64 x15.1.n, .int .i64 x15.1.m, .int .i64 x15.1.k, u17]).toArray = v ∧ Ow (kf cProd) 78 ρ w w0.heap.size 7 u17 x15.1.ps, fun c ρ w v => .int .i64 x15.2 = v, fun c ρ w v => ∃ g8, .pointer (some ((⟨g8, 0, none⟩ : Addr).add 0)) = v ∧ (c ≤ 0 → Va ρ w 8 g8 28 ([.int .i64 0, .int .i64 0, .int .i64 0, .int .i64 0, (.slice none 0 0)])) ∧ (0 < c → ∃ u17, Va ρ w 8 g8 28 ([.int .i64 x15.1.p, .int .i64 x15.1.n, .int .i64 x15.1.m, .int .i64 x15.1.k, u17]) ∧ Ow (kf cProd) 78 ρ w w0.heap.size 7 u17 x15.1.ps), fun _ _ _ _ => True]) hfL hS (by kernel_rfl) rfl (wn rfl) (r_store_w (cs' := [.int .i64 x15.1.p, .int .i64 x15.1.n, .int .i64 x15.1.m, .int .i64 x15.1.k, u17]) hw o8 (by decide) ty28 rfl rfl (one_sch o7.ro.one) hf rfl rfl rfl) (fun w' hΦ => ?_) hK
          obtain ⟨hw, hA, o8⟩ := hΦ
          replace o1 := o1.adv hA (by decide)
          replace o2 := o2.adv hA (by decide)
          replace o7 := o7.adv hA (by decide)
          refine ⟨_, hw, ⟨o1, o2⟩, ?_⟩
          · exact PassL.cons (fun h => h) <| PassL.cons (fun h => by obtain ⟨_, ht, u9, h, o5⟩ := h; exact ⟨_, ht, _, h, o5.adv hA (by decide)⟩) <| PassL.cons (fun h => h) <| PassL.cons (fun h => by obtain ⟨_, ht, u13, h, o6⟩ := h; exact ⟨_, ht, _, h, o6.adv hA (by decide)⟩) <| PassL.cons (fun h => by obtain ⟨_, ht, u17, h, o7⟩ := h; exact ⟨_, ht, _, h, o7.adv hA (by decide)⟩) <| PassL.cons (fun h => by obtain ⟨_, ht, u17, h, o7⟩ := h; exact ⟨_, ht, _, h, o7.adv hA (by decide)⟩) <| PassL.cons (fun h => by obtain ⟨_, ht, u17, h, o7⟩ := h; exact ⟨_, ht, _, h, o7.adv hA (by decide)⟩) <| PassL.cons (fun h => h) <| PassL.cons (fun _ => ⟨_, ht8, _, rfl, fun h => absurd h (by decide), fun _ => ⟨_, o8, o7⟩⟩) <| PassL.here <| PassL.nil
      · intro ρ w a hw hG hf hd
        obtain ⟨o1, o2⟩ := hG
        replace hf : Fr 119 a [(2, .pointer (some ((⟨g1, 0, none⟩ : Addr).add 0))), (3, .pointer (some ((⟨g2, 0, none⟩ : Addr).add 0)))] := hf
        obtain ⟨_, ht, rfl⟩ := hd 7 (by decide) (by kernel_rfl)
        replace hf := hf.more ht
        obtain ⟨_, ht, g8, rfl, hx, hy⟩ := hd 8 (by decide) (by kernel_rfl)
        obtain ⟨u17, o8, o7⟩ := hy (by decide)
        replace hf := hf.more ht
        refine st hf rfl rfl (by decide) (r_assign hf rfl) fun a hf => ?_
        refine c_nt ?_
        refine c_seq ?_
        refine c_region ?_
        refine st hf rfl rfl (by decide) (r_load_agg ty24 hf rfl o1.cl rfl) fun a hf => ?_
        obtain ⟨x19, hx20, hF⟩ := of_bind hF
        refine st_fn 10 hw hf rfl rfl (by decide) (r_fn en15 hf rfl) (laws_toScheme_ok (a0 := a0) (h0.now hw) hx20) fun a v w ρ hf hw hE hN hΦ => ?_
        obtain ⟨u21, rfl, hr22⟩ := hΦ
        replace o1 := o1.ext hE
        replace o2 := o2.ext hE
        replace o8 := o8.ext hE
        replace o7 := o7.ext hE
        have o10 := hN hr22
        have o12 : Ow (kf cProd) 78 ρ w w0.heap.size 12 (.slice none 0 0) [] := Ow.nil _ _ _ _ _ _
        refine st_ex hf rfl rfl (by decide) (r_alloc (cs := [.int .i64 0, .int .i64 0, .int .i64 0, .int .i64 0, (.slice none 0 0)]) 11 ze28 rfl hw) fun a v w hf hΦ => ?_
        obtain ⟨g11, ρ, rfl, hw, hE, o11⟩ := hΦ
        replace o1 := o1.ext hE
        replace o2 := o2.ext hE
        replace o8 := o8.ext hE
        replace o7 := o7.ext hE
        replace o10 := o10.ext hE
        replace o12 := o12.ext hE
        refine st_skip hf rfl rfl (r_store_w (cs' := [.int .i64 x19.p, .int .i64 x19.n, .int .i64 x19.m, .int .i64 x19.k, u21]) hw o11 (by decide) ty28 rfl rfl (one_sch o10.ro.one) hf rfl rfl rfl) fun a w hf hΦ => ?_
        obtain ⟨hw, hA, o11⟩ := hΦ
        replace o1 := o1.adv hA (by decide)
        replace o2 := o2.adv hA (by decide)
        replace o8 := o8.adv hA (by decide)
        replace o7 := o7.adv hA (by decide)
        replace o10 := o10.adv hA (by decide)
        replace o12 := o12.adv hA (by decide)
        refine c_nt ?_
        refine c_seq ?_
        refine c_region ?_
        refine st hf rfl rfl (by decide) (r_load_agg ty24 hf rfl o2.cl rfl) fun a hf => ?_
        obtain ⟨x23, hx24, hF⟩ := of_bind hF
        refine st_fn 13 hw hf rfl rfl (by decide) (r_fn en15 hf rfl) (laws_toScheme_ok (a0 := a1) (h1.now hw) hx24) fun a v w ρ hf hw hE hN hΦ => ?_
        obtain ⟨u25, rfl, hr26⟩ := hΦ
        replace o1 := o1.ext hE
        replace o2 := o2.ext hE
        replace o8 := o8.ext hE
        replace o7 := o7.ext hE
        replace o10 := o10.ext hE
        replace o12 := o12.ext hE
        replace o11 := o11.ext hE
        have o13 := hN hr26
        have o15 : Ow (kf cProd) 78 ρ w w0.heap.size 15 (.slice none 0 0) [] := Ow.nil _ _ _ _ _ _
        refine st_ex hf rfl rfl (by decide) (r_alloc (cs := [.int .i64 0, .int .i64 0, .int .i64 0, .int .i64 0, (.slice none 0 0)]) 14 ze28 rfl hw) fun a v w hf hΦ => ?_
        obtain ⟨g14, ρ, rfl, hw, hE, o14⟩ := hΦ
        replace o1 := o1.ext hE
        replace o2 := o2.ext hE
        replace o8 := o8.ext hE
        replace o7 := o7.ext hE
        replace o10 := o10.ext hE
        replace o12 := o12.ext hE
        replace o11 := o11.ext hE
        replace o13 := o13.ext hE
        replace o15 := o15.ext hE
        refine st_skip hf rfl rfl (r_store_w (cs' := [.int .i64 x23.p, .int .i64 x23.n, .int .i64 x23.m, .int .i64 x23.k, u25]) hw o14 (by decide) ty28 rfl rfl (one_sch o13.ro.one) hf rfl rfl rfl) fun a w hf hΦ => ?_
        obtain ⟨hw, hA, o14⟩ := hΦ
        replace o1 := o1.adv hA (by decide)
        replace o2 := o2.adv hA (by decide)
        replace o8 := o8.adv hA (by decide)
        replace o7 := o7.adv hA (by decide)
        replace o10 := o10.adv hA (by decide)
        replace o12 := o12.adv hA (by decide)
        replace o11 := o11.adv hA (by decide)
        replace o13 := o13.adv hA (by decide)
        replace o15 := o15.adv hA (by decide)
        refine c_nt ?_
        refine c_seq ?_
        refine c_region ?_
        refine st hf rfl rfl (by decide) (r_load_agg ty28 hf rfl o11.cl rfl) fun a hf => ?_
        refine st hf rfl rfl (by decide) (r_load_agg ty28 hf rfl o14.cl rfl) fun a hf => ?_
        obtain ⟨x27, hx28, hF⟩ := of_bind hF
        refine st_fn 16 hw hf rfl rfl (by decide) (r_fn en21 hf rfl) (impl_JoinInner_ok (a0 := x19) (a1 := x23) o10.ro o13.ro hx28) fun a v w ρ hf hw hE hN hΦ => ?_
        obtain ⟨u29, rfl, hr30⟩ := hΦ
        replace o1 := o1.ext hE
        replace o2 := o2.ext hE
        replace o8 := o8.ext hE
        replace o7 := o7.ext hE
        replace o10 := o10.ext hE
        replace o12 := o12.ext hE
        replace o11 := o11.ext hE
        replace o13 := o13.ext hE
        replace o15 := o15.ext hE
        replace o14 := o14.ext hE
        have o16 := hN hr30
        refine st hf rfl rfl (by decide) (r_move hf rfl) fun a hf => ?_
        refine st hf rfl rfl (by decide) (r_extract hf rfl rfl) fun a hf => ?_
        refine st hf rfl rfl (by decide) (r_extract hf rfl rfl) fun a hf => ?_
        have o18 : Ow (kf cProd) 78 ρ w w0.heap.size 18 (.slice none 0 0) [] := Ow.nil _ _ _ _ _ _
        refine st_ex hf rfl rfl (by decide) (r_alloc (cs := [.int .i64 0, .int .i64 0, .int .i64 0, .int .i64 0, (.slice none 0 0)]) 17 ze28 rfl hw) fun a v w hf hΦ => ?_
        obtain ⟨g17, ρ, rfl, hw, hE, o17⟩ := hΦ
        replace o1 := o1.ext hE
        replace o2 := o2.ext hE
        replace o8 := o8.ext hE
        replace o7 := o7.ext hE
        replace o10 := o10.ext hE
        replace o12 := o12.ext hE
        replace o11 := o11.ext hE
        replace o13 := o13.ext hE
        replace o15 := o15.ext hE
        replace o14 := o14.ext hE
        replace o16 := o16.ext hE
        replace o18 := o18.ext hE
        refine st_skip hf rfl rfl (r_store_w (cs' := [.int .i64 x27.1.p, .int .i64 x27.1.n, .int .i64 x27.1.m, .int .i64 x27.1.k, u29]) hw o17 (by decide) ty28 rfl rfl (one_sch o16.ro.one) hf rfl rfl rfl) fun a w hf hΦ => ?_
        obtain ⟨hw, hA, o17⟩ := hΦ
        replace o1 := o1.adv hA (by decide)
        replace o2 := o2.adv hA (by decide)
        replace o8 := o8.adv hA (by decide)
        replace o7 := o7.adv hA (by decide)
        replace o10 := o10.adv hA (by decide)
        replace o12 := o12.adv hA (by decide)
        replace o11 := o11.adv hA (by decide)
        replace o13 := o13.adv hA (by decide)
        replace o15 := o15.adv hA (by decide)
        replace o14 := o14.adv hA (by decide)
        replace o16 := o16.adv hA (by decide)
        replace o18 := o18.adv hA (by decide)
        refine st hf rfl rfl (by decide) (r_assign hf rfl) fun a hf => ?_
        refine c_nt ?_
        refine c_seq ?_
        refine c_seq ?_
        obtain ⟨s32, hT31, hG31⟩ := of_bind hF
        clear hF
        refine c_meet (fun (s : Bool) a w => ∃ ρ, Wd w0 ρ w ∧ Fr 119 a [(2, .pointer (some ((⟨g1, 0, none⟩ : Addr).add 0))), (3, .pointer (some ((⟨g2, 0, none⟩ : Addr).add 0))), (6, .pointer (some ((⟨g8, 0, none⟩ : Addr).add 0))), (7, .int .i64 x15.2), (8, .pointer (some ((⟨g11, 0, none⟩ : Addr).add 0))), (9, .pointer (some ((⟨g14, 0, none⟩ : Addr).add 0))), (10, .pointer (some ((⟨g17, 0, none⟩ : Addr).add 0))), (11, .int .i64 x27.2), (53, .bool s)] ∧ Va ρ w 1 g1 24 ([.int .i64 a0.p, .int .i64 a0.n, .int .i64 a0.m, .int .i64 a0.k, va0]) ∧ Va ρ w 2 g2 24 ([.int .i64 a1.p, .int .i64 a1.n, .int .i64 a1.m, .int .i64 a1.k, va1]) ∧ Ow (kf cProd) 78 ρ w w0.heap.size 7 u17 x15.1.ps ∧ Va ρ w 8 g8 28 ([.int .i64 x15.1.p, .int .i64 x15.1.n, .int .i64 x15.1.m, .int .i64 x15.1.k, u17]) ∧ Ow (kf cProd) 78 ρ w w0.heap.size 10 u21 x19.ps ∧ Va ρ w 11 g11 28 ([.int .i64 x19.p, .int .i64 x19.n, .int .i64 x19.m, .int .i64 x19.k, u21]) ∧ Ow (kf cProd) 78 ρ w w0.heap.size 13 u25 x23.ps ∧ Va ρ w 14 g14 28 ([.int .i64 x23.p, .int .i64 x23.n, .int .i64 x23.m, .int .i64 x23.k, u25]) ∧ Ow (kf cProd) 78 ρ w w0.heap.size 16 u29 x27.1.ps ∧ Va ρ w 17 g17 28 ([.int .i64 x27.1.p, .int .i64 x27.1.n, .int .i64 x27.1.m, .int .i64 x27.1.k, u29])) s32 ?_ ?_
        · have hF := hT31
          refine c_region ?_
          refine st hf rfl rfl (by decide) (r_load_agg ty28 hf rfl o17.cl rfl) fun a hf => ?_
          refine st hf rfl rfl (by decide) (r_load_agg ty28 hf rfl o8.cl rfl) fun a hf => ?_
          obtain ⟨x33, hx34, hF⟩ := of_bind hF
          refine st_fn 19 hw hf rfl rfl (by decide) (r_fn en17 hf rfl) (laws_eqScheme_ok (a0 := x27.1) (a1 := x15.1) o16.ro o7.ro hx34) fun a v w ρ hf hw hE hN hΦ => ?_
          obtain rfl := hΦ
          replace o1 := o1.ext hE
          replace o2 := o2.ext hE
          replace o8 := o8.ext hE
          replace o7 := o7.ext hE
          replace o10 := o10.ext hE
          replace o12 := o12.ext hE
          replace o11 := o11.ext hE
          replace o13 := o13.ext hE
          replace o15 := o15.ext hE
          replace o14 := o14.ext hE
          replace o16 := o16.ext hE
          replace o18 := o18.ext hE
          replace o17 := o17.ext hE
          refine st hf rfl rfl (by decide) (r_not hf rfl) fun a hf => ?_
          refine st hf rfl rfl (by decide) (r_move hf rfl) fun a hf => ?_
          rcases of_ite hF with ⟨hb35, hF⟩ | ⟨hb35, hF⟩
          · refine st_no (b := true) hf rfl rfl rfl hb35 rfl (by decide) fun a hf => ?_
            refine st_no (b := true) hf rfl rfl rfl hb35 rfl (by decide) fun a hf => ?_
            refine st_no (b := true) hf rfl rfl rfl hb35 rfl (by decide) fun a hf => ?_
            refine st hf rfl rfl (by decide) (r_pick (b := true) hf rfl hb35 rfl) fun a hf => ?_
            refine c_nil ⟨rfl, ?_⟩
            obtain rfl := Option.some.inj hF
            exact ⟨_, hw, hf.sub ⟨rfl, rfl, rfl, rfl, rfl, rfl, rfl, rfl, rfl, trivial⟩, o1, o2, o7, o8, o10, o11, o13, o14, o16, o17⟩
          · refine st_g (b := false) hf rfl rfl rfl hb35 rfl (by decide) (r_move hf rfl) fun a hf => ?_
            refine st_g (b := false) hf rfl rfl rfl hb35 rfl (by decide) (r_move hf rfl) fun a hf => ?_
            refine st_g (b := false) hf rfl rfl rfl hb35 rfl (by decide) (r_neq hf rfl rfl) fun a hf => ?_
            refine st hf rfl rfl (by decide) (r_pick (b := false) hf rfl hb35 rfl) fun a hf => ?_
            refine c_nil ⟨rfl, ?_⟩
            obtain rfl := Option.some.inj hF
            exact ⟨_, hw, hf.sub ⟨rfl, rfl, rfl, rfl, rfl, rfl, rfl, rfl, rfl, trivial⟩, o1, o2, o7, o8, o10, o11, o13, o14, o16, o17⟩
        · rintro a w ⟨ρ, hw, hf, o1, o2, o7, o8, o10, o11, o13, o14, o16, o17⟩
          replace hf : Fr 119 a [(2, .pointer (some ((⟨g1, 0, none⟩ : Addr).add 0))), (3, .pointer (some ((⟨g2, 0, none⟩ : Addr).add 0))), (6, .pointer (some ((⟨g8, 0, none⟩ : Addr).add 0))), (7, .int .i64 x15.2), (8, .pointer (some ((⟨g11, 0, none⟩ : Addr).add 0))), (9, .pointer (some ((⟨g14, 0, none⟩ : Addr).add 0))), (10, .pointer (some ((⟨g17, 0, none⟩ : Addr).add 0))), (11, .int .i64 x27.2), (53, .bool s32)] := hf
          replace o1 : Va ρ w 1 g1 24 ([.int .i64 a0.p, .int .i64 a0.n, .int .i64 a0.m, .int .i64 a0.k, va0]) := o1
          replace o2 : Va ρ w 2 g2 24 ([.int .i64 a1.p, .int .i64 a1.n, .int .i64 a1.m, .int .i64 a1.k, va1]) := o2
          replace o7 : Ow (kf cProd) 78 ρ w w0.heap.size 7 u17 x15.1.ps := o7
          replace o8 : Va ρ w 8 g8 28 ([.int .i64 x15.1.p, .int .i64 x15.1.n, .int .i64 x15.1.m, .int .i64 x15.1.k, u17]) := o8
          replace o10 : Ow (kf cProd) 78 ρ w w0.heap.size 10 u21 x19.ps := o10
          replace o11 : Va ρ w 11 g11 28 ([.int .i64 x19.p, .int .i64 x19.n, .int .i64 x19.m, .int .i64 x19.k, u21]) := o11
          replace o13 : Ow (kf cProd) 78 ρ w w0.heap.size 13 u25 x23.ps := o13
          replace o14 : Va ρ w 14 g14 28 ([.int .i64 x23.p, .int .i64 x23.n, .int .i64 x23.m, .int .i64 x23.k, u25]) := o14
          replace o16 : Ow (kf cProd) 78 ρ w w0.heap.size 16 u29 x27.1.ps := o16
          replace o17 : Va ρ w 17 g17 28 ([.int .i64 x27.1.p, .int .i64 x27.1.n, .int .i64 x27.1.m, .int .i64 x27.1.k, u29]) := o17
          have hF := hG31
          refine n_then ?_
          rcases of_ite hF with ⟨hb36, hF⟩ | ⟨hb36, hF⟩
          · refine c_ift hf rfl hb36 ?_
            refine c_seq ?_
            refine c_region ?_
            refine st hf rfl rfl (by decide) (r_assign hf rfl) fun a hf => ?_
            refine c_nt ?_
            refine c_retc ?_
            obtain rfl := Option.some.inj hF
            refine r_then ?_
            refine c_ret hf (res_tmp Try.results4 hf rfl) ?_
            exact ⟨_, rfl, hw.below, rfl⟩
          · refine c_iff hf rfl hb36 ?_
            refine c_skip ?_
            refine n_then ?_
            refine c_seq ?_
            refine c_seq ?_
            obtain ⟨x37, hx38, hF⟩ := of_bind hF
            replace hf : Fr 119 a [(2, .pointer (some ((⟨g1, 0, none⟩ : Addr).add 0))), (3, .pointer (some ((⟨g2, 0, none⟩ : Addr).add 0))), (6, .pointer (some ((⟨g8, 0, none⟩ : Addr).add 0))), (7, .int .i64 x15.2), (8, .pointer (some ((⟨g11, 0, none⟩ : Addr).add 0))), (9, .pointer (some ((⟨g14, 0, none⟩ : Addr).add 0))), (10, .pointer (some ((⟨g17, 0, none⟩ : Addr).add 0))), (11, .int .i64 x27.2)] := hf.sub ⟨rfl, rfl, rfl, rfl, rfl, rfl, rfl, rfl, trivial⟩
            refine c_drawL (h := 3) mixed (by kernel_rfl) (by kernel_rfl) (fun ρ w => Va ρ w 1 g1 24 ([.int .i64 a0.p, .int .i64 a0.n, .int .i64 a0.m, .int .i64 a0.k, va0]) ∧ Va ρ w 2 g2 24 ([.int .i64 a1.p, .int .i64 a1.n, .int .i64 a1.m, .int .i64 a1.k, va1]) ∧ Ow (kf cProd) 78 ρ w w0.heap.size 7 u17 x15.1.ps ∧ Va ρ w 8 g8 28 ([.int .i64 x15.1.p, .int .i64 x15.1.n, .int .i64 x15.1.m, .int .i64 x15.1.k, u17]) ∧ Ow (kf cProd) 78 ρ w w0.heap.size 10 u21 x19.ps ∧ Va ρ w 11 g11 28 ([.int .i64 x19.p, .int .i64 x19.n, .int .i64 x19.m, .int .i64 x19.k, u21]) ∧ Ow (kf cProd) 78 ρ w w0.heap.size 13 u25 x23.ps ∧ Va ρ w 14 g14 28 ([.int .i64 x23.p, .int .i64 x23.n, .int .i64 x23.m, .int .i64 x23.k, u25]) ∧ Ow (kf cProd) 78 ρ w w0.heap.size 16 u29 x27.1.ps ∧ Va ρ w 17 g17 28 ([.int .i64 x27.1.p, .int .i64 x27.1.n, .int .i64 x27.1.m, .int .i64 x27.1.k, u29])) ?_ [fun ρ w v => .agg ([.int .i64 x19.p, .int .i64 x19.n, .int .i64 x19.m, .int .i64 x19.k, u21]).toArray = v, fun ρ w v => .agg ([.int .i64 a0.p, .int .i64 a0.n, .int .i64 a0.m, .int .i64 a0.k, va0]).toArray = v, fun ρ w v => ∃ u39, .agg ([.int .i64 x37.p, .int .i64 x37.n, .int .i64 x37.m, .int .i64 x37.k, u39]).toArray = v ∧ Ow (kf cProd) 78 ρ w w0.heap.size 20 u39 x37.ps] ?_ hw ⟨o1, o2, o7, o8, o10, o11, o13, o14, o16, o17⟩ hf ?_ ?_
            · intro ρ w ρ' w' hE hG
              obtain ⟨o1, o2, o7, o8, o10, o11, o13, o14, o16, o17⟩ := hG
              exact ⟨o1.ext hE, o2.ext hE, o7.ext hE, o8.ext hE, o10.ext hE, o11.ext hE, o13.ext hE, o14.ext hE, o16.ext hE, o17.ext hE⟩
            · exact LastsL.cons (fun _ _ _ _ _ _ h => h) <| LastsL.cons (fun _ _ _ _ _ _ h => h) <| LastsL.cons (fun _ _ _ _ _ hE h => by obtain ⟨u39, h, o20⟩ := h; exact ⟨_, h, o20.ext hE⟩) <| LastsL.nil
            · refine StepsB.cons ?_ <| StepsB.cons ?_ <| StepsB.cons ?_ <| StepsB.nil
              · intro ρ w a hw hG hf hd K hK
                obtain ⟨o1, o2, o7, o8, o10, o11, o13, o14, o16, o17⟩ := hG
                exact d_val (R := fun ρ w v => .agg ([.int .i64 x19.p, .int .i64 x19.n, .int .i64 x19.m, .int .i64 x19.k, u21]).toArray = v) hw (wn rfl) (r_load_agg ty28 hf rfl o11.cl rfl) rfl rfl hK
              · intro ρ w a hw hG hf hd K hK
                obtain ⟨o1, o2, o7, o8, o10, o11, o13, o14, o16, o17⟩ := hG
                exact d_val (R := fun ρ w v => .agg ([.int .i64 a0.p, .int .i64 a0.n, .int .i64 a0.m, .int .i64 a0.k, va0]).toArray = v) hw (wn rfl) (r_load_agg ty24 hf rfl o1.cl rfl) rfl rfl hK
              · intro ρ w a hw hG hf hd K hK
                obtain ⟨o1, o2, o7, o8, o10, o11, o13, o14, o16, o17⟩ := hG
                obtain ⟨_, ht, rfl⟩ := hd 1 (by kernel_rfl)
                replace hf := hf.more ht
                refine d_call (R := fun ρ w v => ∃ u39, .agg ([.int .i64 x37.p, .int .i64 x37.n, .int .i64 x37.m, .int .i64 x37.k, u39]).toArray = v ∧ Ow (kf cProd) 78 ρ w w0.heap.size 20 u39 x37.ps) hw (wn rfl) (r_fn en15 hf rfl) (laws_toScheme_ok (a0 := a0) (h0.now hw) hx38) rfl (fun v w' hΦ => ?_) hK
                obtain ⟨hb, hΦ⟩ := hΦ
                obtain ⟨u39, rfl, hr40⟩ := hΦ
                have hE := Ext.new (ρ := ρ) 20 hb
                have o20 := Fresh.own (ρ := ρ) (B := w0.heap.size) hr40 hw.below.size 20
                exact ⟨_, hw.new 20 hb, hE, _, rfl, o20⟩
            · intro ρ w a hw hG hf hd
              obtain ⟨o1, o2, o7, o8, o10, o11, o13, o14, o16, o17⟩ := hG
              replace hf : Fr 119 a [(2, .pointer (some ((⟨g1, 0, none⟩ : Addr).add 0))), (3, .pointer (some ((⟨g2, 0, none⟩ : Addr).add 0))), (6, .pointer (some ((⟨g8, 0, none⟩ : Addr).add 0))), (7, .int .i64 x15.2), (8, .pointer (some ((⟨g11, 0, none⟩ : Addr).add 0))), (9, .pointer (some ((⟨g14, 0, none⟩ : Addr).add 0))), (10, .pointer (some ((⟨g17, 0, none⟩ : Addr).add 0))), (11, .int .i64 x27.2)] := hf
              obtain ⟨_, ht, rfl⟩ := hd 0 (by decide)
              replace hf := hf.more ht
              obtain ⟨_, ht, ⟨u39, rfl, o20⟩⟩ := hd 2 (by decide)
              replace hf := hf.more ht
              obtain ⟨x41, hx42, hF⟩ := of_bind hF
              refine st_fn 21 hw hf rfl rfl (by decide) (r_fn en17 hf rfl) (laws_eqScheme_ok (a0 := x19) (a1 := x37) o10.ro o20.ro hx42) fun a v w ρ hf hw hE hN hΦ => ?_
              obtain rfl := hΦ
              replace o1 := o1.ext hE
              replace o2 := o2.ext hE
              replace o7 := o7.ext hE
              replace o8 := o8.ext hE
              replace o10 := o10.ext hE
              replace o11 := o11.ext hE
              replace o13 := o13.ext hE
              replace o14 := o14.ext hE
              replace o16 := o16.ext hE
              replace o17 := o17.ext hE
              replace o20 := o20.ext hE
              refine st hf rfl rfl (by decide) (r_not hf rfl) fun a hf => ?_
              refine c_nt ?_
              rcases of_ite hF with ⟨hb43, hF⟩ | ⟨hb43, hF⟩
              · refine c_ift hf rfl hb43 ?_
                refine c_seq ?_
                refine c_region ?_
                refine st hf rfl rfl (by decide) (r_assign hf rfl) fun a hf => ?_
                refine c_nt ?_
                refine c_retc ?_
                obtain rfl := Option.some.inj hF
                refine r_then ?_
                refine c_ret hf (res_tmp Try.results4 hf rfl) ?_
                exact ⟨_, rfl, hw.below, rfl⟩
              · refine c_iff hf rfl hb43 ?_
                refine c_skip ?_
                refine n_then ?_
                refine c_seq ?_
                refine c_seq ?_
                obtain ⟨x44, hx45, hF⟩ := of_bind hF
                replace hf : Fr 119 a [(2, .pointer (some ((⟨g1, 0, none⟩ : Addr).add 0))), (3, .pointer (some ((⟨g2, 0, none⟩ : Addr).add 0))), (6, .pointer (some ((⟨g8, 0, none⟩ : Addr).add 0))), (7, .int .i64 x15.2), (8, .pointer (some ((⟨g11, 0, none⟩ : Addr).add 0))), (9, .pointer (some ((⟨g14, 0, none⟩ : Addr).add 0))), (10, .pointer (some ((⟨g17, 0, none⟩ : Addr).add 0))), (11, .int .i64 x27.2)] := hf.sub ⟨rfl, rfl, rfl, rfl, rfl, rfl, rfl, rfl, trivial⟩
                refine c_drawL (h := 3) mixed (by kernel_rfl) (by kernel_rfl) (fun ρ w => Va ρ w 1 g1 24 ([.int .i64 a0.p, .int .i64 a0.n, .int .i64 a0.m, .int .i64 a0.k, va0]) ∧ Va ρ w 2 g2 24 ([.int .i64 a1.p, .int .i64 a1.n, .int .i64 a1.m, .int .i64 a1.k, va1]) ∧ Ow (kf cProd) 78 ρ w w0.heap.size 7 u17 x15.1.ps ∧ Va ρ w 8 g8 28 ([.int .i64 x15.1.p, .int .i64 x15.1.n, .int .i64 x15.1.m, .int .i64 x15.1.k, u17]) ∧ Ow (kf cProd) 78 ρ w w0.heap.size 10 u21 x19.ps ∧ Va ρ w 11 g11 28 ([.int .i64 x19.p, .int .i64 x19.n, .int .i64 x19.m, .int .i64 x19.k, u21]) ∧ Ow (kf cProd) 78 ρ w w0.heap.size 13 u25 x23.ps ∧ Va ρ w 14 g14 28 ([.int .i64 x23.p, .int .i64 x23.n, .int .i64 x23.m, .int .i64 x23.k, u25]) ∧ Ow (kf cProd) 78 ρ w w0.heap.size 16 u29 x27.1.ps ∧ Va ρ w 17 g17 28 ([.int .i64 x27.1.p, .int .i64 x27.1.n, .int .i64 x27.1.m, .int .i64 x27.1.k, u29])) ?_ [fun ρ w v => .agg ([.int .i64 x23.p, .int .i64 x23.n, .int .i64 x23.m, .int .i64 x23.k, u25]).toArray = v, fun ρ w v => .agg ([.int .i64 a1.p, .int .i64 a1.n, .int .i64 a1.m, .int .i64 a1.k, va1]).toArray = v, fun ρ w v => ∃ u46, .agg ([.int .i64 x44.p, .int .i64 x44.n, .int .i64 x44.m, .int .i64 x44.k, u46]).toArray = v ∧ Ow (kf cProd) 78 ρ w w0.heap.size 22 u46 x44.ps] ?_ hw ⟨o1, o2, o7, o8, o10, o11, o13, o14, o16, o17⟩ hf ?_ ?_
                · intro ρ w ρ' w' hE hG
                  obtain ⟨o1, o2, o7, o8, o10, o11, o13, o14, o16, o17⟩ := hG
                  exact ⟨o1.ext hE, o2.ext hE, o7.ext hE, o8.ext hE, o10.ext hE, o11.ext hE, o13.ext hE, o14.ext hE, o16.ext hE, o17.ext hE⟩
                · exact LastsL.cons (fun _ _ _ _ _ _ h => h) <| LastsL.cons (fun _ _ _ _ _ _ h => h) <| LastsL.cons (fun _ _ _ _ _ hE h => by obtain ⟨u46, h, o22⟩ := h; exact ⟨_, h, o22.ext hE⟩) <| LastsL.nil
                · refine StepsB.cons ?_ <| StepsB.cons ?_ <| StepsB.cons ?_ <| StepsB.nil
                  · intro ρ w a hw hG hf hd K hK
                    obtain ⟨o1, o2, o7, o8, o10, o11, o13, o14, o16, o17⟩ := hG
                    exact d_val (R := fun ρ w v => .agg ([.int .i64 x23.p, .int .i64 x23.n, .int .i64 x23.m, .int .i64 x23.k, u25]).toArray = v) hw (wn rfl) (r_load_agg ty28 hf rfl o14.cl rfl) rfl rfl hK
                  · intro ρ w a hw hG hf hd K hK
                    obtain ⟨o1, o2, o7, o8, o10, o11, o13, o14, o16, o17⟩ := hG
                    exact d_val (R := fun ρ w v => .agg ([.int .i64 a1.p, .int .i64 a1.n, .int .i64 a1.m, .int .i64 a1.k, va1]).toArray = v) hw (wn rfl) (r_load_agg ty24 hf rfl o2.cl rfl) rfl rfl hK
                  · intro ρ w a hw hG hf hd K hK
                    obtain ⟨o1, o2, o7, o8, o10, o11, o13, o14, o16, o17⟩ := hG
                    obtain ⟨_, ht, rfl⟩ := hd 1 (by kernel_rfl)
                    replace hf := hf.more ht
                    refine d_call (R := fun ρ w v => ∃ u46, .agg ([.int .i64 x44.p, .int .i64 x44.n, .int .i64 x44.m, .int .i64 x44.k, u46]).toArray = v ∧ Ow (kf cProd) 78 ρ w w0.heap.size 22 u46 x44.ps) hw (wn rfl) (r_fn en15 hf rfl) (laws_toScheme_ok (a0 := a1) (h1.now hw) hx45) rfl (fun v w' hΦ => ?_) hK
                    obtain ⟨hb, hΦ⟩ := hΦ
                    obtain ⟨u46, rfl, hr47⟩ := hΦ
                    have hE := Ext.new (ρ := ρ) 22 hb
                    have o22 := Fresh.own (ρ := ρ) (B := w0.heap.size) hr47 hw.below.size 22
                    exact ⟨_, hw.new 22 hb, hE, _, rfl, o22⟩
                · intro ρ w a hw hG hf hd
                  obtain ⟨o1, o2, o7, o8, o10, o11, o13, o14, o16, o17⟩ := hG
                  replace hf : Fr 119 a [(2, .pointer (some ((⟨g1, 0, none⟩ : Addr).add 0))), (3, .pointer (some ((⟨g2, 0, none⟩ : Addr).add 0))), (6, .pointer (some ((⟨g8, 0, none⟩ : Addr).add 0))), (7, .int .i64 x15.2), (8, .pointer (some ((⟨g11, 0, none⟩ : Addr).add 0))), (9, .pointer (some ((⟨g14, 0, none⟩ : Addr).add 0))), (10, .pointer (some ((⟨g17, 0, none⟩ : Addr).add 0))), (11, .int .i64 x27.2)] := hf
                  obtain ⟨_, ht, rfl⟩ := hd 0 (by decide)
                  replace hf := hf.more ht
                  obtain ⟨_, ht, ⟨u46, rfl, o22⟩⟩ := hd 2 (by decide)
                  replace hf := hf.more ht
                  obtain ⟨x48, hx49, hF⟩ := of_bind hF
                  refine st_fn 23 hw hf rfl rfl (by decide) (r_fn en17 hf rfl) (laws_eqScheme_ok (a0 := x23) (a1 := x44) o13.ro o22.ro hx49) fun a v w ρ hf hw hE hN hΦ => ?_
                  obtain rfl := hΦ
                  replace o1 := o1.ext hE
                  replace o2 := o2.ext hE
                  replace o7 := o7.ext hE
                  replace o8 := o8.ext hE
                  replace o10 := o10.ext hE
                  replace o11 := o11.ext hE
                  replace o13 := o13.ext hE
                  replace o14 := o14.ext hE
                  replace o16 := o16.ext hE
                  replace o17 := o17.ext hE
                  replace o22 := o22.ext hE
                  refine st hf rfl rfl (by decide) (r_not hf rfl) fun a hf => ?_
                  refine c_nt ?_
                  rcases of_ite hF with ⟨hb50, hF⟩ | ⟨hb50, hF⟩
                  · refine c_ift hf rfl hb50 ?_
                    refine c_seq ?_
                    refine c_region ?_
                    refine st hf rfl rfl (by decide) (r_assign hf rfl) fun a hf => ?_
                    refine c_nt ?_
                    refine c_retc ?_
                    obtain rfl := Option.some.inj hF
                    refine r_then ?_
                    refine c_ret hf (res_tmp Try.results4 hf rfl) ?_
                    exact ⟨_, rfl, hw.below, rfl⟩
                  · refine c_iff hf rfl hb50 ?_
                    refine c_skip ?_
                    refine n_then ?_
                    refine c_seq ?_
                    refine c_region ?_
                    refine st hf rfl rfl (by decide) (r_assign hf rfl) fun a hf => ?_
                    refine c_nt ?_
                    refine c_seq ?_
                    refine c_region ?_
                    refine st hf rfl rfl (by decide) (r_load_agg ty28 hf rfl o11.cl rfl) fun a hf => ?_
                    refine st hf rfl rfl (by decide) (r_move hf rfl) fun a hf => ?_
                    obtain ⟨x51, hx52, hF⟩ := of_bind hF
                    refine st_mfn hf rfl rfl (by decide) (r_fn en18 hf rfl) (laws_markScheme_ok (a0 := x19) (by decide) hw o10 hx52) fun a v w ρ hf hw hA hΦ => ?_
                    obtain ⟨rfl, o10⟩ := hΦ
                    replace o1 := o1.adv hA (by decide)
                    replace o2 := o2.adv hA (by decide)
                    replace o7 := o7.adv hA (by decide)
                    replace o8 := o8.adv hA (by decide)
                    replace o11 := o11.adv hA (by decide)
                    replace o13 := o13.adv hA (by decide)
                    replace o14 := o14.adv hA (by decide)
                    replace o16 := o16.adv hA (by decide)
                    replace o17 := o17.adv hA (by decide)
                    replace o22 := o22.adv hA (by decide)
                    refine st hf rfl rfl (by decide) (r_assign hf rfl) fun a hf => ?_
                    refine c_nt ?_
                    refine c_seq ?_
                    refine c_region ?_
                    refine st hf rfl rfl (by decide) (r_load_agg ty28 hf rfl o14.cl rfl) fun a hf => ?_
                    refine st hf rfl rfl (by decide) (r_move hf rfl) fun a hf => ?_
                    obtain ⟨x53, hx54, hF⟩ := of_bind hF
                    refine st_mfn hf rfl rfl (by decide) (r_fn en18 hf rfl) (laws_markScheme_ok (a0 := x23) (by decide) hw o13 hx54) fun a v w ρ hf hw hA hΦ => ?_
                    obtain ⟨rfl, o13⟩ := hΦ
                    replace o1 := o1.adv hA (by decide)
                    replace o2 := o2.adv hA (by decide)
                    replace o7 := o7.adv hA (by decide)
                    replace o8 := o8.adv hA (by decide)
                    replace o10 := o10.adv hA (by decide)
                    replace o11 := o11.adv hA (by decide)
                    replace o14 := o14.adv hA (by decide)
                    replace o16 := o16.adv hA (by decide)
                    replace o17 := o17.adv hA (by decide)
                    replace o22 := o22.adv hA (by decide)
                    refine st hf rfl rfl (by decide) (r_assign hf rfl) fun a hf => ?_
                    refine c_nt ?_
                    refine c_seq ?_
                    refine c_seq ?_
                    obtain ⟨s56, hT55, hG55⟩ := of_bind hF
                    clear hF
                    refine c_meet (fun (s : Bool) a w => ∃ ρ, Wd w0 ρ w ∧ Fr 119 a [(2, .pointer (some ((⟨g1, 0, none⟩ : Addr).add 0))), (3, .pointer (some ((⟨g2, 0, none⟩ : Addr).add 0))), (6, .pointer (some ((⟨g8, 0, none⟩ : Addr).add 0))), (7, .int .i64 x15.2), (10, .pointer (some ((⟨g17, 0, none⟩ : Addr).add 0))), (82, .bool s)] ∧ Va ρ w 1 g1 24 ([.int .i64 a0.p, .int .i64 a0.n, .int .i64 a0.m, .int .i64 a0.k, va0]) ∧ Va ρ w 2 g2 24 ([.int .i64 a1.p, .int .i64 a1.n, .int .i64 a1.m, .int .i64 a1.k, va1]) ∧ Ow (kf cProd) 78 ρ w w0.heap.size 7 u17 x15.1.ps ∧ Va ρ w 8 g8 28 ([.int .i64 x15.1.p, .int .i64 x15.1.n, .int .i64 x15.1.m, .int .i64 x15.1.k, u17]) ∧ Ow (kf cProd) 78 ρ w w0.heap.size 16 u29 x27.1.ps ∧ Va ρ w 17 g17 28 ([.int .i64 x27.1.p, .int .i64 x27.1.n, .int .i64 x27.1.m, .int .i64 x27.1.k, u29])) s56 ?_ ?_
                    · have hF := hT55
                      refine c_region ?_
                      refine st hf rfl rfl (by decide) (r_move hf rfl) fun a hf => ?_
                      refine st hf rfl rfl (by decide) (r_lss hf rfl rfl) fun a hf => ?_
                      refine st hf rfl rfl (by decide) (r_move hf rfl) fun a hf => ?_
                      rcases of_ite hF with ⟨hb57, hF⟩ | ⟨hb57, hF⟩
                      · refine st_no (b := true) hf rfl rfl rfl hb57 rfl (by decide) fun a hf => ?_
                        refine st_no (b := true) hf rfl rfl rfl hb57 rfl (by decide) fun a hf => ?_
                        refine st_no (b := true) hf rfl rfl rfl hb57 rfl (by decide) fun a hf => ?_
                        refine st_no (b := true) hf rfl rfl rfl hb57 rfl (by decide) fun a hf => ?_
                        refine st hf rfl rfl (by decide) (r_pick (b := true) hf rfl hb57 rfl) fun a hf => ?_
                        refine st hf rfl rfl (by decide) (r_move hf rfl) fun a hf => ?_
                        refine st_no (b := true) hf rfl rfl rfl rfl rfl (by decide) fun a hf => ?_
                        refine st_no (b := true) hf rfl rfl rfl rfl rfl (by decide) fun a hf => ?_
                        refine st_no (b := true) hf rfl rfl rfl rfl rfl (by decide) fun a hf => ?_
                        refine st hf rfl rfl (by decide) (r_pick (b := true) hf rfl rfl rfl) fun a hf => ?_
                        refine c_nil ⟨rfl, ?_⟩
                        obtain rfl := Option.some.inj hF
                        exact ⟨_, hw, hf.sub ⟨rfl, rfl, rfl, rfl, rfl, rfl, trivial⟩, o1, o2, o7, o8, o16, o17⟩
                      · refine st_g (b := false) hf rfl rfl rfl hb57 rfl (by decide) (r_load_agg ty28 hf rfl o17.cl rfl) fun a hf => ?_
                        refine st_g (b := false) hf rfl rfl rfl hb57 rfl (by decide) (r_load_agg ty28 hf rfl o8.cl rfl) fun a hf => ?_
                        obtain ⟨x58, hx59, hF⟩ := of_bind hF
                        refine st_gfn (b := false) 24 hw hf rfl rfl rfl hb57 rfl (by decide) (r_fn en17 hf rfl) (laws_eqScheme_ok (a0 := x27.1) (a1 := x15.1) o16.ro o7.ro hx59) fun a v w ρ hf hw hE hN hΦ => ?_
                        obtain rfl := hΦ
                        replace o1 := o1.ext hE
                        replace o2 := o2.ext hE
                        replace o7 := o7.ext hE
                        replace o8 := o8.ext hE
                        replace o10 := o10.ext hE
                        replace o11 := o11.ext hE
                        replace o13 := o13.ext hE
                        replace o14 := o14.ext hE
                        replace o16 := o16.ext hE
                        replace o17 := o17.ext hE
                        replace o22 := o22.ext hE
                        refine st_g (b := false) hf rfl rfl rfl hb57 rfl (by decide) (r_not hf rfl) fun a hf => ?_
                        refine st hf rfl rfl (by decide) (r_pick (b := false) hf rfl hb57 rfl) fun a hf => ?_
                        refine st hf rfl rfl (by decide) (r_move hf rfl) fun a hf => ?_
                        rcases of_ite hF with ⟨hb60, hF⟩ | ⟨hb60, hF⟩
                        · refine st_no (b := true) hf rfl rfl rfl hb60 rfl (by decide) fun a hf => ?_
                          refine st_no (b := true) hf rfl rfl rfl hb60 rfl (by decide) fun a hf => ?_
                          refine st_no (b := true) hf rfl rfl rfl hb60 rfl (by decide) fun a hf => ?_
                          refine st hf rfl rfl (by decide) (r_pick (b := true) hf rfl hb60 rfl) fun a hf => ?_
                          refine c_nil ⟨rfl, ?_⟩
                          obtain rfl := Option.some.inj hF
                          exact ⟨_, hw, hf.sub ⟨rfl, rfl, rfl, rfl, rfl, rfl, trivial⟩, o1, o2, o7, o8, o16, o17⟩
                        · refine st_g (b := false) hf rfl rfl rfl hb60 rfl (by decide) (r_move hf rfl) fun a hf => ?_
                          refine st_g (b := false) hf rfl rfl rfl hb60 rfl (by decide) (r_move hf rfl) fun a hf => ?_
                          refine st_g (b := false) hf rfl rfl rfl hb60 rfl (by decide) (r_neq hf rfl rfl) fun a hf => ?_
                          refine st hf rfl rfl (by decide) (r_pick (b := false) hf rfl hb60 rfl) fun a hf => ?_
                          refine c_nil ⟨rfl, ?_⟩
                          obtain rfl := Option.some.inj hF
                          exact ⟨_, hw, hf.sub ⟨rfl, rfl, rfl, rfl, rfl, rfl, trivial⟩, o1, o2, o7, o8, o16, o17⟩
                    · rintro a w ⟨ρ, hw, hf, o1, o2, o7, o8, o16, o17⟩
                      replace hf : Fr 119 a [(2, .pointer (some ((⟨g1, 0, none⟩ : Addr).add 0))), (3, .pointer (some ((⟨g2, 0, none⟩ : Addr).add 0))), (6, .pointer (some ((⟨g8, 0, none⟩ : Addr).add 0))), (7, .int .i64 x15.2), (10, .pointer (some ((⟨g17, 0, none⟩ : Addr).add 0))), (82, .bool s56)] := hf
                      replace o1 : Va ρ w 1 g1 24 ([.int .i64 a0.p, .int .i64 a0.n, .int .i64 a0.m, .int .i64 a0.k, va0]) := o1
                      replace o2 : Va ρ w 2 g2 24 ([.int .i64 a1.p, .int .i64 a1.n, .int .i64 a1.m, .int .i64 a1.k, va1]) := o2
                      replace o7 : Ow (kf cProd) 78 ρ w w0.heap.size 7 u17 x15.1.ps := o7
                      replace o8 : Va ρ w 8 g8 28 ([.int .i64 x15.1.p, .int .i64 x15.1.n, .int .i64 x15.1.m, .int .i64 x15.1.k, u17]) := o8
                      replace o16 : Ow (kf cProd) 78 ρ w w0.heap.size 16 u29 x27.1.ps := o16
                      replace o17 : Va ρ w 17 g17 28 ([.int .i64 x27.1.p, .int .i64 x27.1.n, .int .i64 x27.1.m, .int .i64 x27.1.k, u29]) := o17
                      have hF := hG55
                      refine n_then ?_
                      rcases of_ite hF with ⟨hb61, hF⟩ | ⟨hb61, hF⟩
                      · refine c_ift hf rfl hb61 ?_
                        refine c_seq ?_
                        refine c_region ?_
                        refine st hf rfl rfl (by decide) (r_assign hf rfl) fun a hf => ?_
                        refine c_nt ?_
                        refine c_retc ?_
                        obtain rfl := Option.some.inj hF
                        refine r_then ?_
                        refine c_ret hf (res_tmp Try.results4 hf rfl) ?_
                        exact ⟨_, rfl, hw.below, rfl⟩
                      · refine c_iff hf rfl hb61 ?_
                        refine c_skip ?_
                        refine n_then ?_
                        refine c_seq ?_
                        refine c_region ?_
                        refine st hf rfl rfl (by decide) (r_assign hf rfl) fun a hf => ?_
                        refine c_nt ?_
                        refine c_seq ?_
                        refine c_region ?_
                        refine st hf rfl rfl (by decide) (r_load_agg ty28 hf rfl o17.cl rfl) fun a hf => ?_
                        refine st hf rfl rfl (by decide) (r_move hf rfl) fun a hf => ?_
                        obtain ⟨x62, hx63, hF⟩ := of_bind hF
                        refine st_mfn hf rfl rfl (by decide) (r_fn en18 hf rfl) (laws_markScheme_ok (a0 := x27.1) (by decide) hw o16 hx63) fun a v w ρ hf hw hA hΦ => ?_
                        obtain ⟨rfl, o16⟩ := hΦ
                        replace o1 := o1.adv hA (by decide)
                        replace o2 := o2.adv hA (by decide)
                        replace o7 := o7.adv hA (by decide)
                        replace o8 := o8.adv hA (by decide)
                        replace o17 := o17.adv hA (by decide)
                        refine st hf rfl rfl (by decide) (r_assign hf rfl) fun a hf => ?_
                        refine c_nt ?_
                        refine c_seq ?_
                        refine c_region ?_
                        refine st hf rfl rfl (by decide) (r_assign hf rfl) fun a hf => ?_
                        refine c_nt ?_
                        refine c_seq ?_
                        refine c_region ?_
                        refine st hf rfl rfl (by decide) (r_load_agg ty28 hf rfl o17.cl rfl) fun a hf => ?_
                        refine st hf rfl rfl (by decide) (r_move hf rfl) fun a hf => ?_
                        obtain ⟨x64, hx65, hF⟩ := of_bind hF
                        refine st_fn 25 hw hf rfl rfl (by decide) (r_fn en19 hf rfl) (laws_heldScheme_ok (a0 := (⟨x27.1.p, x27.1.n, x27.1.m, x27.1.k, x62.2⟩ : Sch)) o16.ro hx65) fun a v w ρ hf hw hE hN hΦ => ?_
                        obtain rfl := hΦ
                        replace o1 := o1.ext hE
                        replace o2 := o2.ext hE
                        replace o7 := o7.ext hE
                        replace o8 := o8.ext hE
                        replace o16 := o16.ext hE
                        replace o17 := o17.ext hE
                        refine st hf rfl rfl (by decide) (r_assign hf rfl) fun a hf => ?_
                        refine c_nt ?_
                        refine c_seq ?_
                        refine c_seq ?_
                        refine c_region ?_
                        refine st hf rfl rfl (by decide) (r_move hf rfl) fun a hf => ?_
                        refine st hf rfl rfl (by decide) (r_lss hf rfl rfl) fun a hf => ?_
                        refine c_nt ?_
                        rcases of_ite hF with ⟨hb66, hF⟩ | ⟨hb66, hF⟩
                        · refine c_ift hf rfl hb66 ?_
                          refine c_seq ?_
                          refine c_region ?_
                          refine st hf rfl rfl (by decide) (r_assign hf rfl) fun a hf => ?_
                          refine c_nt ?_
                          refine c_retc ?_
                          obtain rfl := Option.some.inj hF
                          refine r_then ?_
                          refine c_ret hf (res_tmp Try.results4 hf rfl) ?_
                          exact ⟨_, rfl, hw.below, rfl⟩
                        · refine c_iff hf rfl hb66 ?_
                          refine c_skip ?_
                          refine n_then ?_
                          refine c_seq ?_
                          refine c_seq ?_
                          refine c_region ?_
                          refine st hf rfl rfl (by decide) (r_move hf rfl) fun a hf => ?_
                          refine st hf rfl rfl (by decide) (r_move hf rfl) fun a hf => ?_
                          refine st hf rfl rfl (by decide) (r_neq hf rfl rfl) fun a hf => ?_
                          refine c_nt ?_
                          rcases of_ite hF with ⟨hb67, hF⟩ | ⟨hb67, hF⟩
                          · refine c_ift hf rfl hb67 ?_
                            refine c_seq ?_
                            refine c_region ?_
                            refine st hf rfl rfl (by decide) (r_assign hf rfl) fun a hf => ?_
                            refine c_nt ?_
                            refine c_retc ?_
                            obtain rfl := Option.some.inj hF
                            refine r_then ?_
                            refine c_ret hf (res_tmp Try.results4 hf rfl) ?_
                            exact ⟨_, rfl, hw.below, rfl⟩
                          · refine c_iff hf rfl hb67 ?_
                            refine c_skip ?_
                            refine n_then ?_
                            refine c_seq ?_
                            obtain ⟨x68, hx69, hF⟩ := of_bind hF
                            obtain ⟨x72, hx73, hF⟩ := of_bind hF
                            obtain ⟨x76, hx77, hF⟩ := of_bind hF
                            replace hf : Fr 119 a [(2, .pointer (some ((⟨g1, 0, none⟩ : Addr).add 0))), (3, .pointer (some ((⟨g2, 0, none⟩ : Addr).add 0))), (6, .pointer (some ((⟨g8, 0, none⟩ : Addr).add 0))), (7, .int .i64 x15.2), (10, .pointer (some ((⟨g17, 0, none⟩ : Addr).add 0))), (13, .int .i64 x62.1)] := hf.sub ⟨rfl, rfl, rfl, rfl, rfl, rfl, trivial⟩
                            refine c_stage 10 [9] mixed (by kernel_rfl) (by kernel_rfl) (fun c ρ w => Va ρ w 1 g1 24 ([.int .i64 a0.p, .int .i64 a0.n, .int .i64 a0.m, .int .i64 a0.k, va0]) ∧ Va ρ w 2 g2 24 ([.int .i64 a1.p, .int .i64 a1.n, .int .i64 a1.m, .int .i64 a1.k, va1]) ∧ Ow (kf cProd) 78 ρ w w0.heap.size 7 u17 x15.1.ps ∧ Va ρ w 8 g8 28 ([.int .i64 x15.1.p, .int .i64 x15.1.n, .int .i64 x15.1.m, .int .i64 x15.1.k, u17]) ∧ Ow (kf cProd) 78 ρ w w0.heap.size 16 u29 x62.2 ∧ Va ρ w 17 g17 28 ([.int .i64 x27.1.p, .int .i64 x27.1.n, .int .i64 x27.1.m, .int .i64 x27.1.k, u29])) ?_ [fun c ρ w v => .agg ([.int .i64 a0.p, .int .i64 a0.n, .int .i64 a0.m, .int .i64 a0.k, va0]).toArray = v, fun c ρ w v => ∃ u70, .agg ([.int .i64 x68.p, .int .i64 x68.n, .int .i64 x68.m, .int .i64 x68.k, u70]).toArray = v ∧ Ow (kf cProd) 78 ρ w w0.heap.size 26 u70 x68.ps, fun c ρ w v => .agg ([.int .i64 a1.p, .int .i64 a1.n, .int .i64 a1.m, .int .i64 a1.k, va1]).toArray = v, fun c ρ w v => ∃ u74, .agg ([.int .i64 x72.p, .int .i64 x72.n, .int .i64 x72.m, .int .i64 x72.k, u74]).toArray = v ∧ Ow (kf cProd) 78 ρ w w0.heap.size 27 u74 x72.ps, fun c ρ w v => ∃ u78, .tuple #[.agg ([.int .i64 x76.1.p, .int .i64 x76.1.n, .int .i64 x76.1.m, .int .i64 x76.1.k, u78]).toArray, .int .i64 x76.2] = v ∧ Ow (kf cProd) 78 ρ w w0.heap.size 28 u78 x76.1.ps, fun c ρ w v => ∃ u78, .tuple #[.agg ([.int .i64 x76.1.p, .int .i64 x76.1.n, .int .i64 x76.1.m, .int .i64 x76.1.k, u78]).toArray, .int .i64 x76.2] = v ∧ Ow (kf cProd) 78 ρ w w0.heap.size 28 u78 x76.1.ps, fun c ρ w v => ∃ u78, .agg ([.int .i64 x76.1.p, .int .i64 x76.1.n, .int .i64 x76.1.m, .int .i64 x76.1.k, u78]).toArray = v ∧ Ow (kf cProd) 78 ρ w w0.heap.size 28 u78 x76.1.ps, fun c ρ w v => .int .i64 x76.2 = v, fun c ρ w v => ∃ g29, .pointer (some ((⟨g29, 0, none⟩ : Addr).add 0)) = v ∧ (c ≤ 0 → Va ρ w 29 g29 28 ([.int .i64 0, .int .i64 0, .int .i64 0, .int .i64 0, (.slice none 0 0)])) ∧ (0 < c → ∃ u78, Va ρ w 29 g29 28 ([.int .i64 x76.1.p, .int .i64 x76.1.n, .int .i64 x76.1.m, .int .i64 x76.1.k, u78]) ∧ Ow (kf cProd) 78 ρ w w0.heap.size 28 u78 x76.1.ps), fun _ _ _ _ => True] ?_ hw ⟨o1, o2, o7, o8, o16, o17⟩ hf ?_ ?_
                            · intro c ρ w ρ' w' hE hG
                              obtain ⟨o1, o2, o7, o8, o16, o17⟩ := hG
                              exact ⟨o1.ext hE, o2.ext hE, o7.ext hE, o8.ext hE, o16.ext hE, o17.ext hE⟩
                            · exact LastsS.cons (fun _ _ _ _ _ _ _ h => h) <| LastsS.cons (fun c _ _ _ _ _ hE h => by obtain ⟨u70, h, o26⟩ := h; exact ⟨_, h, o26.ext hE⟩) <| LastsS.cons (fun _ _ _ _ _ _ _ h => h) <| LastsS.cons (fun c _ _ _ _ _ hE h => by obtain ⟨u74, h, o27⟩ := h; exact ⟨_, h, o27.ext hE⟩) <| LastsS.cons (fun c _ _ _ _ _ hE h => by obtain ⟨u78, h, o28⟩ := h; exact ⟨_, h, o28.ext hE⟩) <| LastsS.cons (fun c _ _ _ _ _ hE h => by obtain ⟨u78, h, o28⟩ := h; exact ⟨_, h, o28.ext hE⟩) <| LastsS.cons (fun c _ _ _ _ _ hE h => by obtain ⟨u78, h, o28⟩ := h; exact ⟨_, h, o28.ext hE⟩) <| LastsS.cons (fun _ _ _ _ _ _ _ h => h) <| LastsS.cons (fun c _ _ _ _ _ hE h => by obtain ⟨g29, h, hx, hy⟩ := h; exact ⟨_, h, fun h => (hx h).ext hE, (fun h => by obtain ⟨u78, o29, o28⟩ := hy h; exact ⟨_, o29.ext hE, o28.ext hE⟩)⟩) <| LastsS.cons (fun _ _ _ _ _ _ _ h => h) <| LastsS.nil
                            · refine StepsS.float rfl ?_ <| StepsS.float rfl ?_ <| StepsS.float rfl ?_ <| StepsS.float rfl ?_ <| StepsS.float rfl ?_ <| StepsS.float rfl ?_ <| StepsS.float rfl ?_ <| StepsS.float rfl ?_ <| StepsS.float rfl ?_ <| StepsS.main 0 rfl rfl ?_ <| StepsS.nil
                              · intro c ρ w a hs hw hG hf hd K hK
                                obtain ⟨o1, o2, o7, o8, o16, o17⟩ := hG
                                exact d_val (R := fun ρ w v => .agg ([.int .i64 a0.p, .int .i64 a0.n, .int .i64 a0.m, .int .i64 a0.k, va0]).toArray = v) hw (wn rfl) (r_load_agg ty24 hf rfl o1.cl rfl) rfl rfl hK
                              · intro c ρ w a hs hw hG hf hd K hK
                                obtain ⟨o1, o2, o7, o8, o16, o17⟩ := hG
                                obtain ⟨_, ht0, rfl⟩ := hd 0 (by kernel_rfl) (by kernel_rfl)
                                replace hf := hf.more ht0
                                refine d_call (R := fun ρ w v => ∃ u70, .agg ([.int .i64 x68.p, .int .i64 x68.n, .int .i64 x68.m, .int .i64 x68.k, u70]).toArray = v ∧ Ow (kf cProd) 78 ρ w w0.heap.size 26 u70 x68.ps) hw (wn rfl) (r_fn en15 hf rfl) (laws_toScheme_ok (a0 := a0) (h0.now hw) hx69) rfl (fun v w' hΦ => ?_) hK
                                obtain ⟨hb, hΦ⟩ := hΦ
                                obtain ⟨u70, rfl, hr71⟩ := hΦ
                                have hE := Ext.new (ρ := ρ) 26 hb
                                have o26 := Fresh.own (ρ := ρ) (B := w0.heap.size) hr71 hw.below.size 26
                                exact ⟨_, hw.new 26 hb, hE, _, rfl, o26⟩
                              · intro c ρ w a hs hw hG hf hd K hK
                                obtain ⟨o1, o2, o7, o8, o16, o17⟩ := hG
                                exact d_val (R := fun ρ w v => .agg ([.int .i64 a1.p, .int .i64 a1.n, .int .i64 a1.m, .int .i64 a1.k, va1]).toArray = v) hw (wn rfl) (r_load_agg ty24 hf rfl o2.cl rfl) rfl rfl hK
                              · intro c ρ w a hs hw hG hf hd K hK
                                obtain ⟨o1, o2, o7, o8, o16, o17⟩ := hG
                                obtain ⟨_, ht2, rfl⟩ := hd 2 (by kernel_rfl) (by kernel_rfl)
                                replace hf := hf.more ht2
                                refine d_call (R := fun ρ w v => ∃ u74, .agg ([.int .i64 x72.p, .int .i64 x72.n, .int .i64 x72.m, .int .i64 x72.k, u74]).toArray = v ∧ Ow (kf cProd) 78 ρ w w0.heap.size 27 u74 x72.ps) hw (wn rfl) (r_fn en15 hf rfl) (laws_toScheme_ok (a0 := a1) (h1.now hw) hx73) rfl (fun v w' hΦ => ?_) hK
                                obtain ⟨hb, hΦ⟩ := hΦ
                                obtain ⟨u74, rfl, hr75⟩ := hΦ
                                have hE := Ext.new (ρ := ρ) 27 hb
                                have o27 := Fresh.own (ρ := ρ) (B := w0.heap.size) hr75 hw.below.size 27
                                exact ⟨_, hw.new 27 hb, hE, _, rfl, o27⟩
                              · intro c ρ w a hs hw hG hf hd K hK
                                obtain ⟨o1, o2, o7, o8, o16, o17⟩ := hG
                                obtain ⟨_, ht1, ⟨u70, rfl, o26⟩⟩ := hd 1 (by kernel_rfl) (by kernel_rfl)
                                replace hf := hf.more ht1
                                obtain ⟨_, ht3, ⟨u74, rfl, o27⟩⟩ := hd 3 (by kernel_rfl) (by kernel_rfl)
                                replace hf := hf.more ht3
                                refine d_call (R := fun ρ w v => ∃ u78, .tuple #[.agg ([.int .i64 x76.1.p, .int .i64 x76.1.n, .int .i64 x76.1.m, .int .i64 x76.1.k, u78]).toArray, .int .i64 x76.2] = v ∧ Ow (kf cProd) 78 ρ w w0.heap.size 28 u78 x76.1.ps) hw (wn rfl) (r_fn en21 hf rfl) (impl_JoinInner_ok (a0 := x68) (a1 := x72) o26.ro o27.ro hx77) rfl (fun v w' hΦ => ?_) hK
                                obtain ⟨hb, hΦ⟩ := hΦ
                                obtain ⟨u78, rfl, hr79⟩ := hΦ
                                have hE := Ext.new (ρ := ρ) 28 hb
                                have o28 := Fresh.own (ρ := ρ) (B := w0.heap.size) hr79 hw.below.size 28
                                exact ⟨_, hw.new 28 hb, hE, _, rfl, o28⟩
                              · intro c ρ w a hs hw hG hf hd K hK
                                obtain ⟨o1, o2, o7, o8, o16, o17⟩ := hG
                                obtain ⟨_, ht4, ⟨u78, rfl, o28⟩⟩ := hd 4 (by kernel_rfl) (by kernel_rfl)
                                replace hf := hf.more ht4
                                exact d_val (R := fun ρ w v => ∃ u78, .tuple #[.agg ([.int .i64 x76.1.p, .int .i64 x76.1.n, .int .i64 x76.1.m, .int .i64 x76.1.k, u78]).toArray, .int .i64 x76.2] = v ∧ Ow (kf cProd) 78 ρ w w0.heap.size 28 u78 x76.1.ps) hw (wn rfl) (r_move hf rfl) rfl ⟨_, rfl, o28⟩ hK
                              · intro c ρ w a hs hw hG hf hd K hK
                                obtain ⟨o1, o2, o7, o8, o16, o17⟩ := hG
                                obtain ⟨_, ht5, ⟨u78, rfl, o28⟩⟩ := hd 5 (by kernel_rfl) (by kernel_rfl)
                                replace hf := hf.more ht5
                                exact d_val (R := fun ρ w v => ∃ u78, .agg ([.int .i64 x76.1.p, .int .i64 x76.1.n, .int .i64 x76.1.m, .int .i64 x76.1.k, u78]).toArray = v ∧ Ow (kf cProd) 78 ρ w w0.heap.size 28 u78 x76.1.ps) hw (wn rfl) (r_extract hf rfl rfl) rfl ⟨_, rfl, o28⟩ hK
                              · intro c ρ w a hs hw hG hf hd K hK
                                obtain ⟨o1, o2, o7, o8, o16, o17⟩ := hG
                                obtain ⟨_, ht5, ⟨u78, rfl, o28⟩⟩ := hd 5 (by kernel_rfl) (by kernel_rfl)
                                replace hf := hf.more ht5
                                exact d_val (R := fun ρ w v => .int .i64 x76.2 = v) hw (wn rfl) (r_extract hf rfl rfl) rfl rfl hK
                              · intro c ρ w a hs hw hG hf hd K hK
                                obtain ⟨o1, o2, o7, o8, o16, o17⟩ := hG
                                have o30 : Ow (kf cProd) 78 ρ w w0.heap.size 30 (.slice none 0 0) [] := Ow.nil _ _ _ _ _ _
                                refine d_ex (R := fun ρ w v => ∃ g29, .pointer (some ((⟨g29, 0, none⟩ : Addr).add 0)) = v ∧ (c ≤ 0 → Va ρ w 29 g29 28 ([.int .i64 0, .int .i64 0, .int .i64 0, .int .i64 0, (.slice none 0 0)])) ∧ (0 < c → ∃ u78, Va ρ w 29 g29 28 ([.int .i64 x76.1.p, .int .i64 x76.1.n, .int .i64 x76.1.m, .int .i64 x76.1.k, u78]) ∧ Ow (kf cProd) 78 ρ w w0.heap.size 28 u78 x76.1.ps)) hw (wn rfl) (r_alloc (cs := [.int .i64 0, .int .i64 0, .int .i64 0, .int .i64 0, (.slice none 0 0)]) 29 ze28 rfl hw) rfl (fun v w' hΦ => ?_) hK
                                obtain ⟨g29, ρ, rfl, hw, hE, o29⟩ := hΦ
                                exact ⟨_, hw, hE, _, rfl, fun _ => o29, fun hc => absurd (hs 0 (by decide) (by kernel_rfl)) (Nat.not_le_of_lt hc)⟩
                              · intro ρ w a S hw hG hf hS hdep hSi K hK
                                obtain ⟨o1, o2, o7, o8, o16, o17⟩ := hG
                                have hfL := hf
                                obtain ⟨_, ht6, ⟨u78, rfl, o28⟩⟩ := hS 6 (by decide) (hdep 6 (by kernel_rfl)) (by kernel_rfl)
                                replace hf := hf.more ht6
                                obtain ⟨_, ht8, g29, rfl, hx8, hy8⟩ := hS 8 (by decide) (hdep 8 (by kernel_rfl)) (by kernel_rfl)
                                have o29 := hx8 (by decide)
                                replace hf := hf.more ht8
                                refine m_skip (Γ := fun c ρ w => Va ρ w 1 g1 24 ([.int .i64 a0.p, .int .i64 a0.n, .int .i64 a0.m, .int .i64 a0.k, va0]) ∧ Va ρ w 2 g2 24 ([.int .i64 a1.p, .int .i64 a1.n, .int .i64 a1.m, .int .i64 a1.k, va1]) ∧ Ow (kf cProd) 78 ρ w w0.heap.size 7 u17 x15.1.ps ∧ Va ρ w 8 g8 28 ([.int .i64 x15.1.p, .int .i64 x15.1.n, .int .i64 x15.1.m, .int .i64 x15.1.k, u17]) ∧ Ow (kf cProd) 78 ρ w w0.heap.size 16 u29 x62.2 ∧ Va ρ w 17 g17 28 ([.int .i64 x27.1.p, .int .i64 x27.1.n, .int .i64 x27.1.m, .int .i64 x27.1.k, u29])) (Rl := [fun c ρ w v => .agg ([.int .i64 a0.p, .int .i64 a0.n, .int .i64 a0.m, .int .i64 a0.k, va0]).toArray = v, fun c ρ w v => ∃ u70, .agg ([.int .i64 x68.p, .int .i64 x68.n, .int .i64 x68.m, .int .i64 x68.k, u70]).toArray = v ∧ Ow (kf cProd) 78 ρ w w0.heap.size 26 u70 x68.ps, fun c ρ w v => .agg ([.int .i64 a1.p, .int .i64 a1.n, .int .i64 a1.m, .int .i64 a1.k, va1]).toArray = v, fun c ρ w v => ∃ u74, .agg ([.int .i64 x72.p, .int .i64 x72.n, .int .i64 x72.m, .int .i64 x72.k, u74]).toArray = v ∧ Ow (kf cProd) 78 ρ w w0.heap.size 27 u74 x72.ps, fun c ρ w v => ∃ u78, .tuple #[.agg ([.int .i64 x76.1.p, .int .i64 x76.1.n, .int .i64 x76.1.m, .int .i64 x76.1.k, u78]).toArray, .int .i64 x76.2] = v ∧ Ow (kf cProd) 78 ρ w w0.heap.size 28 u78 x76.1.ps, fun c ρ w v => ∃ u78, .tuple #[.agg ([.int .i64 x76.1.p, .int .i64 x76.1.n, .int .i64 x76.1.m, .int .i64 x76.1.k, u78]).toArray, .int .i64 x76.2] = v ∧ Ow (kf cProd) 78 ρ w w0.heap.size 28 u78 x76.1.ps, fun c ρ w v => ∃ u78, .agg ([.int .i64 x76.1.p, .int .i64 x76.1.n, .int .i64 x76.1.m, .int .i64 x76.1.k, u78]).toArray = v ∧ Ow (kf cProd) 78 ρ w w0.heap.size 28 u78 x76.1.ps, fun c ρ w v => .int .i64 x76.2 = v, fun c ρ w v => ∃ g29, .pointer (some ((⟨g29, 0, none⟩ : Addr).add 0)) = v ∧ (c ≤ 0 → Va ρ w 29 g29 28 ([.int .i64 0, .int .i64 0, .int .i64 0, .int .i64 0, (.slice none 0 0)])) ∧ (0 < c → ∃ u78, Va ρ w 29 g29 28 ([.int .i64 x76.1.p, .int .i64 x76.1.n, .int .i64 x76.1.m, .int .i64 x76.1.k, u78]) ∧ Ow (kf cProd) 78 ρ w w0.heap.size 28 u78 x76.1.ps), fun _ _ _ _ => True]) hfL hS (by kernel_rfl) rfl (wn rfl) (r_store_w (cs' := [.int .i64 x76.1.p, .int .i64 x76.1.n, .int .i64 x76.1.m, .int .i64 x76.1.k, u78]) hw o29 (by decide) ty28 rfl rfl (one_sch o28.ro.one) hf rfl rfl rfl) (fun w' hΦ => ?_) hK
                                obtain ⟨hw, hA, o29⟩ := hΦ
                                replace o1 := o1.adv hA (by decide)
                                replace o2 := o2.adv hA (by decide)
                                replace o7 := o7.adv hA (by decide)
                                replace o8 := o8.adv hA (by decide)
                                replace o16 := o16.adv hA (by decide)
                                replace o17 := o17.adv hA (by decide)
                                replace o28 := o28.adv hA (by decide)
                                refine ⟨_, hw, ⟨o1, o2, o7, o8, o16, o17⟩, ?_⟩
                                · exact PassL.cons (fun h => h) <| PassL.cons (fun h => by obtain ⟨_, ht, u70, h, o26⟩ := h; exact ⟨_, ht, _, h, o26.adv hA (by decide)⟩) <| PassL.cons (fun h => h) <| PassL.cons (fun h => by obtain ⟨_, ht, u74, h, o27⟩ := h; exact ⟨_, ht, _, h, o27.adv hA (by decide)⟩) <| PassL.cons (fun h => by obtain ⟨_, ht, u78, h, o28⟩ := h; exact ⟨_, ht, _, h, o28.adv hA (by decide)⟩) <| PassL.cons (fun h => by obtain ⟨_, ht, u78, h, o28⟩ := h; exact ⟨_, ht, _, h, o28.adv hA (by decide)⟩) <| PassL.cons (fun h => by obtain ⟨_, ht, u78, h, o28⟩ := h; exact ⟨_, ht, _, h, o28.adv hA (by decide)⟩) <| PassL.cons (fun h => h) <| PassL.cons (fun _ => ⟨_, ht8, _, rfl, fun h => absurd h (by decide), fun _ => ⟨_, o29, o28⟩⟩) <| PassL.here <| PassL.nil
                            · intro ρ w a hw hG hf hd
                              obtain ⟨o1, o2, o7, o8, o16, o17⟩ := hG
                              replace hf : Fr 119 a [(2, .pointer (some ((⟨g1, 0, none⟩ : Addr).add 0))), (3, .pointer (some ((⟨g2, 0, none⟩ : Addr).add 0))), (6, .pointer (some ((⟨g8, 0, none⟩ : Addr).add 0))), (7, .int .i64 x15.2), (10, .pointer (some ((⟨g17, 0, none⟩ : Addr).add 0))), (13, .int .i64 x62.1)] := hf
                              obtain ⟨_, ht, rfl⟩ := hd 7 (by decide) (by kernel_rfl)
                              replace hf := hf.more ht
                              obtain ⟨_, ht, g29, rfl, hx, hy⟩ := hd 8 (by decide) (by kernel_rfl)
                              obtain ⟨u78, o29, o28⟩ := hy (by decide)
                              replace hf := hf.more ht
                              refine st hf rfl rfl (by decide) (r_assign hf rfl) fun a hf => ?_
                              refine c_nt ?_
                              refine c_seq ?_
                              refine c_seq ?_
                              obtain ⟨s81, hT80, hG80⟩ := of_bind hF
                              clear hF
                              refine c_meet (fun (s : Bool) a w => ∃ ρ, Wd w0 ρ w ∧ Fr 119 a [(10, .pointer (some ((⟨g17, 0, none⟩ : Addr).add 0))), (13, .int .i64 x62.1), (110, .bool s)] ∧ Ow (kf cProd) 78 ρ w w0.heap.size 16 u29 x62.2 ∧ Va ρ w 17 g17 28 ([.int .i64 x27.1.p, .int .i64 x27.1.n, .int .i64 x27.1.m, .int .i64 x27.1.k, u29])) s81 ?_ ?_
                              · have hF := hT80
                                refine c_region ?_
                                refine st hf rfl rfl (by decide) (r_load_agg ty28 hf rfl o29.cl rfl) fun a hf => ?_
                                refine st hf rfl rfl (by decide) (r_load_agg ty28 hf rfl o8.cl rfl) fun a hf => ?_
                                obtain ⟨x82, hx83, hF⟩ := of_bind hF
                                refine st_fn 31 hw hf rfl rfl (by decide) (r_fn en17 hf rfl) (laws_eqScheme_ok (a0 := x76.1) (a1 := x15.1) o28.ro o7.ro hx83) fun a v w ρ hf hw hE hN hΦ => ?_
                                obtain rfl := hΦ
                                replace o1 := o1.ext hE
                                replace o2 := o2.ext hE
                                replace o7 := o7.ext hE
                                replace o8 := o8.ext hE
                                replace o16 := o16.ext hE
                                replace o17 := o17.ext hE
                                replace o29 := o29.ext hE
                                replace o28 := o28.ext hE
                                refine st hf rfl rfl (by decide) (r_not hf rfl) fun a hf => ?_
                                refine st hf rfl rfl (by decide) (r_move hf rfl) fun a hf => ?_
                                rcases of_ite hF with ⟨hb84, hF⟩ | ⟨hb84, hF⟩
                                · refine st_no (b := true) hf rfl rfl rfl hb84 rfl (by decide) fun a hf => ?_
                                  refine st_no (b := true) hf rfl rfl rfl hb84 rfl (by decide) fun a hf => ?_
                                  refine st_no (b := true) hf rfl rfl rfl hb84 rfl (by decide) fun a hf => ?_
                                  refine st hf rfl rfl (by decide) (r_pick (b := true) hf rfl hb84 rfl) fun a hf => ?_
                                  refine c_nil ⟨rfl, ?_⟩
                                  obtain rfl := Option.some.inj hF
                                  exact ⟨_, hw, hf.sub ⟨rfl, rfl, rfl, trivial⟩, o16, o17⟩
                                · refine st_g (b := false) hf rfl rfl rfl hb84 rfl (by decide) (r_move hf rfl) fun a hf => ?_
                                  refine st_g (b := false) hf rfl rfl rfl hb84 rfl (by decide) (r_move hf rfl) fun a hf => ?_
                                  refine st_g (b := false) hf rfl rfl rfl hb84 rfl (by decide) (r_neq hf rfl rfl) fun a hf => ?_
                                  refine st hf rfl rfl (by decide) (r_pick (b := false) hf rfl hb84 rfl) fun a hf => ?_
                                  refine c_nil ⟨rfl, ?_⟩
                                  obtain rfl := Option.some.inj hF
                                  exact ⟨_, hw, hf.sub ⟨rfl, rfl, rfl, trivial⟩, o16, o17⟩
                              · rintro a w ⟨ρ, hw, hf, o16, o17⟩
                                replace hf : Fr 119 a [(10, .pointer (some ((⟨g17, 0, none⟩ : Addr).add 0))), (13, .int .i64 x62.1), (110, .bool s81)] := hf
                                replace o16 : Ow (kf cProd) 78 ρ w w0.heap.size 16 u29 x62.2 := o16
                                replace o17 : Va ρ w 17 g17 28 ([.int .i64 x27.1.p, .int .i64 x27.1.n, .int .i64 x27.1.m, .int .i64 x27.1.k, u29]) := o17
                                have hF := hG80
                                refine n_then ?_
                                rcases of_ite hF with ⟨hb85, hF⟩ | ⟨hb85, hF⟩
                                · refine c_ift hf rfl hb85 ?_
                                  refine c_seq ?_
                                  refine c_region ?_
                                  refine st hf rfl rfl (by decide) (r_assign hf rfl) fun a hf => ?_
                                  refine c_nt ?_
                                  refine c_retc ?_
                                  obtain rfl := Option.some.inj hF
                                  refine r_then ?_
                                  refine c_ret hf (res_tmp Try.results4 hf rfl) ?_
                                  exact ⟨_, rfl, hw.below, rfl⟩
                                · refine c_iff hf rfl hb85 ?_
                                  refine c_skip ?_
                                  refine n_then ?_
                                  refine c_seq ?_
                                  refine c_region ?_
                                  refine st hf rfl rfl (by decide) (r_assign hf rfl) fun a hf => ?_
                                  refine c_nt ?_
                                  refine c_seq ?_
                                  refine c_region ?_
                                  refine st hf rfl rfl (by decide) (r_load_agg ty28 hf rfl o17.cl rfl) fun a hf => ?_
                                  refine st hf rfl rfl (by decide) (r_move hf rfl) fun a hf => ?_
                                  obtain ⟨x86, hx87, hF⟩ := of_bind hF
                                  refine st_fn 32 hw hf rfl rfl (by decide) (r_fn en19 hf rfl) (laws_heldScheme_ok (a0 := (⟨x27.1.p, x27.1.n, x27.1.m, x27.1.k, x62.2⟩ : Sch)) o16.ro hx87) fun a v w ρ hf hw hE hN hΦ => ?_
                                  obtain rfl := hΦ
                                  replace o16 := o16.ext hE
                                  replace o17 := o17.ext hE
                                  refine st hf rfl rfl (by decide) (r_assign hf rfl) fun a hf => ?_
                                  refine c_nt ?_
                                  refine c_seq ?_
                                  refine c_seq ?_
                                  refine c_region ?_
                                  refine st hf rfl rfl (by decide) (r_move hf rfl) fun a hf => ?_
                                  refine st hf rfl rfl (by decide) (r_lss hf rfl rfl) fun a hf => ?_
                                  refine c_nt ?_
                                  rcases of_ite hF with ⟨hb88, hF⟩ | ⟨hb88, hF⟩
                                  · refine c_ift hf rfl hb88 ?_
                                    refine c_seq ?_
                                    refine c_region ?_
                                    refine st hf rfl rfl (by decide) (r_assign hf rfl) fun a hf => ?_
                                    refine c_nt ?_
                                    refine c_retc ?_
                                    obtain rfl := Option.some.inj hF
                                    refine r_then ?_
                                    refine c_ret hf (res_tmp Try.results4 hf rfl) ?_
                                    exact ⟨_, rfl, hw.below, rfl⟩
                                  · refine c_iff hf rfl hb88 ?_
                                    refine c_skip ?_
                                    refine n_then ?_
                                    refine c_seq ?_
                                    refine c_seq ?_
                                    refine c_region ?_
                                    refine st hf rfl rfl (by decide) (r_move hf rfl) fun a hf => ?_
                                    refine st hf rfl rfl (by decide) (r_move hf rfl) fun a hf => ?_
                                    refine st hf rfl rfl (by decide) (r_neq hf rfl rfl) fun a hf => ?_
                                    refine c_nt ?_
                                    rcases of_ite hF with ⟨hb89, hF⟩ | ⟨hb89, hF⟩
                                    · refine c_ift hf rfl hb89 ?_
                                      refine c_seq ?_
                                      refine c_region ?_
                                      refine st hf rfl rfl (by decide) (r_assign hf rfl) fun a hf => ?_
                                      refine c_nt ?_
                                      refine c_retc ?_
                                      obtain rfl := Option.some.inj hF
                                      refine r_then ?_
                                      refine c_ret hf (res_tmp Try.results4 hf rfl) ?_
                                      exact ⟨_, rfl, hw.below, rfl⟩
                                    · refine c_iff hf rfl hb89 ?_
                                      refine c_skip ?_
                                      refine n_then ?_
                                      refine c_seq ?_
                                      refine c_region ?_
                                      refine st hf rfl rfl (by decide) (r_assign hf rfl) fun a hf => ?_
                                      refine c_nt ?_
                                      refine c_retc ?_
                                      obtain rfl := Option.some.inj hF
                                      refine c_ret hf (res_tmp Try.results4 hf rfl) ?_
                                      exact ⟨_, rfl, hw.below, rfl⟩
end Go.Proofs.YtB
