/- Functions of the program as plain functions, and that they compute these. Printed by gen.py. -/
import Derived.Test.YtaaghemmkbgldaaFpT
set_option linter.unusedVariables false
set_option linter.unusedSimpArgs false
set_option maxRecDepth 4000
set_option maxHeartbeats 1000000
namespace Go.Proofs.YtB
open Go Go.RowKit Go.Proofs Go.Proofs.YtaaghemmkbgldaaW.PrintWords
/-! f62 -/
noncomputable def laws_szProductS (a0 : List Prod) (a1 : Int) : Option Int :=
  if (decide ((w64 (a1 - (a0.length : Int))) < 0)) = true then (some ((-1))) else (some (w64 (a1 - (a0.length : Int))))
theorem laws_szProductS_ok {w0 : World} {a0 : List Prod} {a1 : Int} {va0 : Value} (h0 : Ro (kf cProd) w0 va0 a0) {r : Int} (hF : laws_szProductS a0 a1 = some r) :
    Calls Try.prog 62 [va0, .int .i64 a1].toArray w0 fun e w => ∃ v, e = .returned v ∧ Below w0.heap.size w0 w ∧ .int .i64 r = v := by
  refine calls_of (k := 12) Try.func62 rfl rfl (Nat.le_of_ble_eq_true rfl) fun a hf => ?_
  replace hf : Fr 12 a [(0, va0), (1, .int .i64 a1)] := hf
  refine c_start fun w ρ hw => ?_
  unfold laws_szProductS at hF
  refine c_seq ?_
  refine c_region ?_
  refine st hf rfl rfl (by decide) (r_assign hf rfl) fun a hf => ?_
  refine c_nt ?_
  refine c_seq ?_
  refine c_region ?_
  refine st hf rfl rfl (by decide) (r_move hf rfl) fun a hf => ?_
  refine st hf rfl rfl (by decide) (r_move hf rfl) fun a hf => ?_
  refine st hf rfl rfl (by decide) (r_len Try.underlying22 (h0.now hw) hf rfl) fun a hf => ?_
  refine st hf rfl rfl (by decide) (r_sub hf rfl rfl) fun a hf => ?_
  refine st hf rfl rfl (by decide) (r_assign hf rfl) fun a hf => ?_
  refine c_nt ?_
  refine c_seq ?_
  refine c_seq ?_
  refine c_region ?_
  refine st hf rfl rfl (by decide) (r_move hf rfl) fun a hf => ?_
  refine st hf rfl rfl (by decide) (r_lss hf rfl rfl) fun a hf => ?_
  refine c_nt ?_
  rcases of_ite hF with ⟨hb1, hF⟩ | ⟨hb1, hF⟩
  · refine c_ift hf rfl hb1 ?_
    refine c_seq ?_
    refine c_region ?_
    refine st hf rfl rfl (by decide) (r_assign hf rfl) fun a hf => ?_
    refine c_nt ?_
    refine c_retc ?_
    obtain rfl := Option.some.inj hF
    refine r_then ?_
    refine c_ret hf (res_tmp Try.results62 hf rfl) ?_
    exact ⟨_, rfl, hw.below, rfl⟩
  · refine c_iff hf rfl hb1 ?_
    refine c_skip ?_
    refine n_then ?_
    refine c_seq ?_
    refine c_region ?_
    refine st hf rfl rfl (by decide) (r_move hf rfl) fun a hf => ?_
    refine st hf rfl rfl (by decide) (r_assign hf rfl) fun a hf => ?_
    refine c_nt ?_
    refine c_retc ?_
    obtain rfl := Option.some.inj hF
    refine c_ret hf (res_tmp Try.results62 hf rfl) ?_
    exact ⟨_, rfl, hw.below, rfl⟩
/-! f13 -/
noncomputable def laws_szScheme (a0 : Sch) (a1 : Int) : Option Int :=
  (laws_szProductS a0.ps a1).bind fun x1 => if (decide (x1 < 0)) = true then (some ((-1))) else (some (x1))
theorem laws_szScheme_ok {w0 : World} {a0 : Sch} {a1 : Int} {va0 : Value} (h0 : Ro (kf cProd) w0 va0 a0.ps) {r : Int} (hF : laws_szScheme a0 a1 = some r) :
    Calls Try.prog 13 [.agg ([.int .i64 a0.p, .int .i64 a0.n, .int .i64 a0.m, .int .i64 a0.k, va0]).toArray, .int .i64 a1].toArray w0 fun e w => ∃ v, e = .returned v ∧ Below w0.heap.size w0 w ∧ .int .i64 r = v := by
  refine calls_of (k := 12) Try.func13 rfl rfl (Nat.le_of_ble_eq_true rfl) fun a hf => ?_
  replace hf : Fr 12 a [(0, .agg ([.int .i64 a0.p, .int .i64 a0.n, .int .i64 a0.m, .int .i64 a0.k, va0]).toArray), (1, .int .i64 a1)] := hf
  refine c_start fun w ρ hw => ?_
  unfold laws_szScheme at hF
  refine c_seq ?_
  refine c_region ?_
  refine st_ex hf rfl rfl (by decide) (r_box (cs := [.int .i64 a0.p, .int .i64 a0.n, .int .i64 a0.m, .int .i64 a0.k, va0]) 1 hw hf rfl rfl) fun a v w hf hΦ => ?_
  obtain ⟨g1, ρ, rfl, hw, hE, o1⟩ := hΦ
  refine st hf rfl rfl (by decide) (r_assign hf rfl) fun a hf => ?_
  refine c_nt ?_
  refine c_seq ?_
  refine c_region ?_
  refine st hf rfl rfl (by decide) (r_fa fa24_4 hf rfl) fun a hf => ?_
  refine st hf rfl rfl (by decide) (r_load_cell ty22 hf rfl (o1.cl.at_ 4 _ rfl)) fun a hf => ?_
  refine st hf rfl rfl (by decide) (r_move hf rfl) fun a hf => ?_
  obtain ⟨x1, hx2, hF⟩ := of_bind hF
  refine st_fn 2 hw hf rfl rfl (by decide) (r_fn en62 hf rfl) (laws_szProductS_ok (h0.now hw) hx2) fun a v w ρ hf hw hE hN hΦ => ?_
  obtain rfl := hΦ
  replace o1 := o1.ext hE
  refine st hf rfl rfl (by decide) (r_assign hf rfl) fun a hf => ?_
  refine c_nt ?_
  refine c_seq ?_
  refine c_seq ?_
  refine c_region ?_
  refine st hf rfl rfl (by decide) (r_move hf rfl) fun a hf => ?_
  refine st hf rfl rfl (by decide) (r_lss hf rfl rfl) fun a hf => ?_
  refine c_nt ?_
  rcases of_ite hF with ⟨hb3, hF⟩ | ⟨hb3, hF⟩
  · refine c_ift hf rfl hb3 ?_
    refine c_seq ?_
    refine c_region ?_
    refine st hf rfl rfl (by decide) (r_assign hf rfl) fun a hf => ?_
    refine c_nt ?_
    refine c_retc ?_
    obtain rfl := Option.some.inj hF
    refine r_then ?_
    refine c_ret hf (res_tmp Try.results13 hf rfl) ?_
    exact ⟨_, rfl, hw.below, rfl⟩
  · refine c_iff hf rfl hb3 ?_
    refine c_skip ?_
    refine n_then ?_
    refine c_seq ?_
    refine c_region ?_
    refine st hf rfl rfl (by decide) (r_move hf rfl) fun a hf => ?_
    refine st hf rfl rfl (by decide) (r_assign hf rfl) fun a hf => ?_
    refine c_nt ?_
    refine c_retc ?_
    obtain rfl := Option.some.inj hF
    refine c_ret hf (res_tmp Try.results13 hf rfl) ?_
    exact ⟨_, rfl, hw.below, rfl⟩
/-! f25 -/
noncomputable def laws_toForm_l1 (a0 : Form) (s2 : Int) (s3 : Form) : Option (LR (Int × Form) Form) :=
  if (decide (s2 < 9)) = true then (if 0 ≤ s2 ∧ s2 < 9 then (some (.next (w64 (s2 + 1), vs s3 s2 (vg 0 a0 s2)))) else none) else (some (.stop (s2, s3)))
noncomputable def laws_toForm (a0 : Form) : Option Form :=
  (iter (fun s => laws_toForm_l1 a0 s.1 s.2) (0, zForm)).bind fun o => match o with | .stop (s2, s3) => (some (s3)) | .ret r => some r | .next _ => none
theorem laws_toForm_ok {w0 : World} {a0 : Form}   {r : Form} (hF : laws_toForm a0 = some r) :
    Calls Try.prog 25 [.agg (cForm.enc a0).toArray].toArray w0 fun e w => ∃ v, e = .returned v ∧ Below w0.heap.size w0 w ∧ .agg (cForm.enc r).toArray = v := by
  refine calls_of (k := 15) Try.func25 rfl rfl (Nat.le_of_ble_eq_true rfl) fun a hf => ?_
  replace hf : Fr 15 a [(0, .agg (cForm.enc a0).toArray)] := hf
  refine c_start fun w ρ hw => ?_
  unfold laws_toForm at hF
  refine c_seq ?_
  refine c_region ?_
  refine st_ex hf rfl rfl (by decide) (r_box (cs := cForm.enc a0) 1 hw hf rfl rfl) fun a v w hf hΦ => ?_
  obtain ⟨g1, ρ, rfl, hw, hE, o1⟩ := hΦ
  refine st_ex hf rfl rfl (by decide) (r_alloc (cs := cForm.enc zForm) 2 ze39 rfl hw) fun a v w hf hΦ => ?_
  obtain ⟨g2, ρ, rfl, hw, hE, o2⟩ := hΦ
  replace o1 := o1.ext hE
  refine c_nt ?_
  refine c_seq ?_
  refine c_region ?_
  refine st_ex hf rfl rfl (by decide) (r_alloc (cs := cForm.enc zForm) 3 ze39 rfl hw) fun a v w hf hΦ => ?_
  obtain ⟨g3, ρ, rfl, hw, hE, o3⟩ := hΦ
  replace o1 := o1.ext hE
  replace o2 := o2.ext hE
  refine c_nt ?_
  refine c_seq ?_
  refine c_seq ?_
  refine c_region ?_
  refine st hf rfl rfl (by decide) (r_assign hf rfl) fun a hf => ?_
  refine c_nt ?_
  obtain ⟨ol1, ho1, hG1⟩ := of_bind hF
  clear hF
  refine c_block (c_loop (id := 0) (fun s => laws_toForm_l1 a0 s.1 s.2) (fun (s : Int × Form) a w => ∃ ρ, Wd w0 ρ w ∧ Fr 15 a [(1, .pointer (some ((⟨g1, 0, none⟩ : Addr).add 0))), (2, .pointer (some ((⟨g2, 0, none⟩ : Addr).add 0))), (3, .pointer (some ((⟨g3, 0, none⟩ : Addr).add 0))), (4, .int .i64 s.1)] ∧ Va ρ w 1 g1 37 (cForm.enc a0) ∧ Va ρ w 2 g2 39 (cForm.enc zForm) ∧ Va ρ w 3 g3 39 (cForm.enc s.2)) (fun (s : Int × Form) a w => ∃ ρ, Wd w0 ρ w ∧ Fr 15 a [(2, .pointer (some ((⟨g2, 0, none⟩ : Addr).add 0))), (3, .pointer (some ((⟨g3, 0, none⟩ : Addr).add 0)))] ∧ Va ρ w 2 g2 39 (cForm.enc zForm) ∧ Va ρ w 3 g3 39 (cForm.enc s.2)) ho1 ⟨_, hw, hf.sub ⟨rfl, rfl, rfl, rfl, trivial⟩, o1, o2, o3⟩ ?_ ?_)
  · rintro ⟨s2, s3⟩ lr a w ⟨ρ, hw, hf, o1, o2, o3⟩ hF
    replace hf : Fr 15 a [(1, .pointer (some ((⟨g1, 0, none⟩ : Addr).add 0))), (2, .pointer (some ((⟨g2, 0, none⟩ : Addr).add 0))), (3, .pointer (some ((⟨g3, 0, none⟩ : Addr).add 0))), (4, .int .i64 s2)] := hf
    replace o1 : Va ρ w 1 g1 37 (cForm.enc a0) := o1
    replace o2 : Va ρ w 2 g2 39 (cForm.enc zForm) := o2
    replace o3 : Va ρ w 3 g3 39 (cForm.enc s3) := o3
    replace hF : laws_toForm_l1 a0 s2 s3 = some lr := hF
    unfold laws_toForm_l1 at hF
    refine c_seq ?_
    refine c_seq ?_
    refine c_region ?_
    refine st hf rfl rfl (by decide) (r_move hf rfl) fun a hf => ?_
    refine st hf rfl rfl (by decide) (r_lss hf rfl rfl) fun a hf => ?_
    refine c_nt ?_
    rcases of_ite hF with ⟨hb4, hF⟩ | ⟨hb4, hF⟩
    · refine c_ift hf rfl hb4 ?_
      refine c_skip ?_
      refine n_then ?_
      refine c_seq ?_
      refine c_block ?_
      refine c_region ?_
      refine st hf rfl rfl (by decide) (r_move hf rfl) fun a hf => ?_
      refine st hf rfl rfl (by decide) (r_move hf rfl) fun a hf => ?_
      obtain ⟨hc5, hF⟩ := of_guard hF
      refine st hf rfl rfl (by decide) (r_indexAddr_arr Try.underlying37 sz5 hf rfl rfl hc5.1 hc5.2) fun a hf => ?_
      refine st hf rfl rfl (by decide) (r_load_cell ty5 hf rfl (o1.cl.lens (Lens.vec 0 fU8 s2 hc5.1 hc5.2))) fun a hf => ?_
      refine st hf rfl rfl (by decide) (r_indexAddr_arr Try.underlying39 sz5 hf rfl rfl hc5.1 hc5.2) fun a hf => ?_
      refine st_skip hf rfl rfl (r_store_l (b := vg 0 a0 s2) hw o3 (by decide) (Lens.vec 0 fU8 s2 hc5.1 hc5.2) (by simp only [Nat.zero_add] <;> rfl) ty5 hf rfl rfl rfl) fun a w hf hΦ => ?_
      obtain ⟨hw, hA, o3⟩ := hΦ
      replace o1 := o1.adv hA (by decide)
      replace o2 := o2.adv hA (by decide)
      refine c_nil ?_
      refine n_block ?_
      refine n_then ?_
      refine c_region ?_
      refine st hf rfl rfl (by decide) (r_move hf rfl) fun a hf => ?_
      refine st hf rfl rfl (by decide) (r_add hf rfl rfl) fun a hf => ?_
      refine st hf rfl rfl (by decide) (r_assign hf rfl) fun a hf => ?_
      refine c_nil ?_
      obtain rfl := Option.some.inj hF
      exact Rnd.goes ⟨_, hw, hf.sub ⟨rfl, rfl, rfl, rfl, trivial⟩, o1, o2, o3⟩
    · refine c_iff hf rfl hb4 ?_
      refine c_exit ?_
      refine x_then ?_
      obtain rfl := Option.some.inj hF
      exact Rnd.stops ⟨_, hw, hf.sub ⟨rfl, rfl, trivial⟩, o2, o3⟩
  · rintro ⟨s2, s3⟩ a w hs ⟨ρ, hw, hf, o2, o3⟩
    subst hs
    replace hf : Fr 15 a [(2, .pointer (some ((⟨g2, 0, none⟩ : Addr).add 0))), (3, .pointer (some ((⟨g3, 0, none⟩ : Addr).add 0)))] := hf
    replace o2 : Va ρ w 2 g2 39 (cForm.enc zForm) := o2
    replace o3 : Va ρ w 3 g3 39 (cForm.enc s3) := o3
    have hF := hG1
    dsimp only at hF
    refine x_block ?_
    refine n_then ?_
    refine c_seq ?_
    refine c_region ?_
    refine st hf rfl rfl (by decide) (r_load_agg ty39 hf rfl o3.cl (cForm.len _)) fun a hf => ?_
    refine st_skip hf rfl rfl (r_store_w (cs' := cForm.enc s3) hw o2 (by decide) ty39 (cForm.len _) (cForm.len _) (cForm.one _) hf rfl rfl rfl) fun a w hf hΦ => ?_
    obtain ⟨hw, hA, o2⟩ := hΦ
    replace o3 := o3.adv hA (by decide)
    refine c_nt ?_
    refine c_retc ?_
    obtain rfl := Option.some.inj hF
    refine c_ret hf (res_cell Try.results25 ty39 hf rfl o2.cl (cForm.len _)) ?_
    exact ⟨_, rfl, hw.below, rfl⟩
/-! f124 -/
noncomputable def laws_toProduct (a0 : Prod) : Option Prod :=
  (laws_toForm a0.1).bind fun x1 => (laws_toForm a0.2.1).bind fun x3 => (laws_toForm a0.2.2).bind fun x5 => some ((((x1, zProd.2.1, zProd.2.2).1, x3, (x1, zProd.2.1, zProd.2.2).2.2).1, ((x1, zProd.2.1, zProd.2.2).1, x3, (x1, zProd.2.1, zProd.2.2).2.2).2.1, x5))
theorem laws_toProduct_ok {w0 : World} {a0 : Prod}   {r : Prod} (hF : laws_toProduct a0 = some r) :
    Calls Try.prog 124 [.agg (cProd.enc a0).toArray].toArray w0 fun e w => ∃ v, e = .returned v ∧ Below w0.heap.size w0 w ∧ .agg (cProd.enc r).toArray = v := by
  refine calls_of (k := 17) Try.func124 rfl rfl (Nat.le_of_ble_eq_true rfl) fun a hf => ?_
  replace hf : Fr 17 a [(0, .agg (cProd.enc a0).toArray)] := hf
  refine c_start fun w ρ hw => ?_
  unfold laws_toProduct at hF
  refine c_seq ?_
  refine c_region ?_
  refine st_ex hf rfl rfl (by decide) (r_box (cs := cProd.enc a0) 1 hw hf rfl rfl) fun a v w hf hΦ => ?_
  obtain ⟨g1, ρ, rfl, hw, hE, o1⟩ := hΦ
  refine st_ex hf rfl rfl (by decide) (r_alloc (cs := cProd.enc zProd) 2 ze78 rfl hw) fun a v w hf hΦ => ?_
  obtain ⟨g2, ρ, rfl, hw, hE, o2⟩ := hΦ
  replace o1 := o1.ext hE
  refine c_nt ?_
  refine c_seq ?_
  refine c_region ?_
  refine st_ex hf rfl rfl (by decide) (r_alloc (cs := cProd.enc zProd) 3 ze78 rfl hw) fun a v w hf hΦ => ?_
  obtain ⟨g3, ρ, rfl, hw, hE, o3⟩ := hΦ
  replace o1 := o1.ext hE
  replace o2 := o2.ext hE
  refine c_nt ?_
  refine c_seq ?_
  refine c_region ?_
  refine st hf rfl rfl (by decide) (r_fa fa123_0 hf rfl) fun a hf => ?_
  refine st hf rfl rfl (by decide) (r_load_agg ty37 hf rfl (o1.cl.lens lProd_0) (cForm.len _)) fun a hf => ?_
  obtain ⟨x1, hx2, hF⟩ := of_bind hF
  refine st_fn 4 hw hf rfl rfl (by decide) (r_fn en25 hf rfl) (laws_toForm_ok  hx2) fun a v w ρ hf hw hE hN hΦ => ?_
  obtain rfl := hΦ
  replace o1 := o1.ext hE
  replace o2 := o2.ext hE
  replace o3 := o3.ext hE
  refine st hf rfl rfl (by decide) (r_fa fa78_0 hf rfl) fun a hf => ?_
  refine st_skip hf rfl rfl (r_store_l (b := x1) hw o3 (by decide) lProd_0 (by simp only [Nat.zero_add] <;> rfl) ty39 hf rfl rfl rfl) fun a w hf hΦ => ?_
  obtain ⟨hw, hA, o3⟩ := hΦ
  replace o1 := o1.adv hA (by decide)
  replace o2 := o2.adv hA (by decide)
  refine c_nt ?_
  refine c_seq ?_
  refine c_region ?_
  refine st hf rfl rfl (by decide) (r_fa fa123_1 hf rfl) fun a hf => ?_
  refine st hf rfl rfl (by decide) (r_load_agg ty37 hf rfl (o1.cl.lens lProd_1) (cForm.len _)) fun a hf => ?_
  obtain ⟨x3, hx4, hF⟩ := of_bind hF
  refine st_fn 5 hw hf rfl rfl (by decide) (r_fn en25 hf rfl) (laws_toForm_ok  hx4) fun a v w ρ hf hw hE hN hΦ => ?_
  obtain rfl := hΦ
  replace o1 := o1.ext hE
  replace o2 := o2.ext hE
  replace o3 := o3.ext hE
  refine st hf rfl rfl (by decide) (r_fa fa78_1 hf rfl) fun a hf => ?_
  refine st_skip hf rfl rfl (r_store_l (b := x3) hw o3 (by decide) lProd_1 (by simp only [Nat.zero_add] <;> rfl) ty39 hf rfl rfl rfl) fun a w hf hΦ => ?_
  obtain ⟨hw, hA, o3⟩ := hΦ
  replace o1 := o1.adv hA (by decide)
  replace o2 := o2.adv hA (by decide)
  refine c_nt ?_
  refine c_seq ?_
  refine c_region ?_
  refine st hf rfl rfl (by decide) (r_fa fa123_2 hf rfl) fun a hf => ?_
  refine st hf rfl rfl (by decide) (r_load_agg ty37 hf rfl (o1.cl.lens lProd_2) (cForm.len _)) fun a hf => ?_
  obtain ⟨x5, hx6, hF⟩ := of_bind hF
  refine st_fn 6 hw hf rfl rfl (by decide) (r_fn en25 hf rfl) (laws_toForm_ok  hx6) fun a v w ρ hf hw hE hN hΦ => ?_
  obtain rfl := hΦ
  replace o1 := o1.ext hE
  replace o2 := o2.ext hE
  replace o3 := o3.ext hE
  refine st hf rfl rfl (by decide) (r_fa fa78_2 hf rfl) fun a hf => ?_
  refine st_skip hf rfl rfl (r_store_l (b := x5) hw o3 (by decide) lProd_2 (by simp only [Nat.zero_add] <;> rfl) ty39 hf rfl rfl rfl) fun a w hf hΦ => ?_
  obtain ⟨hw, hA, o3⟩ := hΦ
  replace o1 := o1.adv hA (by decide)
  replace o2 := o2.adv hA (by decide)
  refine c_nt ?_
  refine c_seq ?_
  refine c_region ?_
  refine st hf rfl rfl (by decide) (r_load_agg ty78 hf rfl o3.cl (cProd.len _)) fun a hf => ?_
  refine st_skip hf rfl rfl (r_store_w (cs' := cProd.enc (((x1, zProd.2.1, zProd.2.2).1, x3, (x1, zProd.2.1, zProd.2.2).2.2).1, ((x1, zProd.2.1, zProd.2.2).1, x3, (x1, zProd.2.1, zProd.2.2).2.2).2.1, x5)) hw o2 (by decide) ty78 (cProd.len _) (cProd.len _) (cProd.one _) hf rfl rfl rfl) fun a w hf hΦ => ?_
  obtain ⟨hw, hA, o2⟩ := hΦ
  replace o1 := o1.adv hA (by decide)
  replace o3 := o3.adv hA (by decide)
  refine c_nt ?_
  refine c_retc ?_
  obtain rfl := Option.some.inj hF
  refine c_ret hf (res_cell Try.results124 ty78 hf rfl o2.cl (cProd.len _)) ?_
  exact ⟨_, rfl, hw.below, rfl⟩
/-! f64 -/
noncomputable def laws_toProductS_l2 (a0 : List Prod) (s3 : Int) (s4 : List Prod) : Option (LR (Int × (List Prod)) (List Prod)) :=
  if (decide (s3 < (a0.length : Int))) = true then (if 0 ≤ s3 ∧ s3 < (a0.length : Int) then ((laws_toProduct (gl zProd a0 s3)).bind fun x8 => if 0 ≤ s3 ∧ s3 < (s4.length : Int) then (some (.next (w64 (s3 + 1), (s4.set s3.toNat x8)))) else none) else none) else (some (.stop (s3, s4)))
noncomputable def laws_toProductS (a0 : List Prod) : Option (List Prod) :=
  if 0 ≤ (a0.length : Int) ∧ (a0.length : Int) * 27 ≤ 281474976710656 then ((iter (fun s => laws_toProductS_l2 a0 s.1 s.2) (0, (List.replicate (a0.length : Int).toNat zProd))).bind fun o => match o with | .stop (s3, s4) => (some (s4)) | .ret r => some r | .next _ => none) else none
theorem laws_toProductS_ok {w0 : World} {a0 : List Prod} {va0 : Value} (h0 : Ro (kf cProd) w0 va0 a0) {r : List Prod} (hF : laws_toProductS a0 = some r) :
    Calls Try.prog 64 [va0].toArray w0 fun e w => ∃ v, e = .returned v ∧ Below w0.heap.size w0 w ∧ ∃ u0, u0 = v ∧ Fresh (kf cProd) 78 w0 w u0 r := by
  refine calls_of (k := 23) Try.func64 rfl rfl (Nat.le_of_ble_eq_true rfl) fun a hf => ?_
  replace hf : Fr 23 a [(0, va0)] := hf
  refine c_start fun w ρ hw => ?_
  unfold laws_toProductS at hF
  refine c_seq ?_
  refine c_region ?_
  have o1 : Ow (kf cProd) 78 ρ w w0.heap.size 1 (.slice none 0 0) [] := Ow.nil _ _ _ _ _ _
  refine st hf rfl rfl (by decide) (r_assign hf rfl) fun a hf => ?_
  refine c_nt ?_
  refine c_seq ?_
  refine c_region ?_
  refine st hf rfl rfl (by decide) (r_move hf rfl) fun a hf => ?_
  refine st hf rfl rfl (by decide) (r_len Try.underlying22 (h0.now hw) hf rfl) fun a hf => ?_
  obtain ⟨hc1, hF⟩ := of_guard hF
  refine st_ex hf rfl rfl (by decide) (r_make (d := cProd) (z0 := zProd) 2 Try.underlying26 el78 rfl hw hf rfl hc1.1 (mk_le hc1.1 hc1.2)) fun a v2 w hf hΦ => ?_
  obtain ⟨ρ, hw, hE, o2⟩ := hΦ
  replace o1 := o1.ext hE
  refine st hf rfl rfl (by decide) (r_assign hf rfl) fun a hf => ?_
  refine c_nt ?_
  refine c_seq ?_
  refine c_seq ?_
  refine c_region ?_
  refine st hf rfl rfl (by decide) (r_assign hf rfl) fun a hf => ?_
  refine c_nt ?_
  obtain ⟨ol2, ho2, hG2⟩ := of_bind hF
  clear hF
  refine c_block (c_loop (id := 0) (fun s => laws_toProductS_l2 a0 s.1 s.2) (fun (s : Int × (List Prod)) a w => ∃ ρ, Wd w0 ρ w ∧ Fr 23 a [(0, va0), (3, v2), (4, .int .i64 s.1)] ∧ Ow (kf cProd) 78 ρ w w0.heap.size 2 v2 s.2) (fun (s : Int × (List Prod)) a w => ∃ ρ, Wd w0 ρ w ∧ Fr 23 a [(3, v2)] ∧ Ow (kf cProd) 78 ρ w w0.heap.size 2 v2 s.2) ho2 ⟨_, hw, hf.sub ⟨rfl, rfl, rfl, trivial⟩, o2⟩ ?_ ?_)
  · rintro ⟨s3, s4⟩ lr a w ⟨ρ, hw, hf, o2⟩ hF
    replace hf : Fr 23 a [(0, va0), (3, v2), (4, .int .i64 s3)] := hf
    replace o2 : Ow (kf cProd) 78 ρ w w0.heap.size 2 v2 s4 := o2
    replace hF : laws_toProductS_l2 a0 s3 s4 = some lr := hF
    unfold laws_toProductS_l2 at hF
    refine c_seq ?_
    refine c_seq ?_
    refine c_region ?_
    refine st hf rfl rfl (by decide) (r_move hf rfl) fun a hf => ?_
    refine st hf rfl rfl (by decide) (r_move hf rfl) fun a hf => ?_
    refine st hf rfl rfl (by decide) (r_len Try.underlying22 (h0.now hw) hf rfl) fun a hf => ?_
    refine st hf rfl rfl (by decide) (r_lss hf rfl rfl) fun a hf => ?_
    refine c_nt ?_
    rcases of_ite hF with ⟨hb5, hF⟩ | ⟨hb5, hF⟩
    · refine c_ift hf rfl hb5 ?_
      refine c_skip ?_
      refine n_then ?_
      refine c_seq ?_
      refine c_block ?_
      refine c_region ?_
      refine st hf rfl rfl (by decide) (r_move hf rfl) fun a hf => ?_
      refine st hf rfl rfl (by decide) (r_move hf rfl) fun a hf => ?_
      refine st hf rfl rfl (by decide) (r_move hf rfl) fun a hf => ?_
      refine st hf rfl rfl (by decide) (r_move hf rfl) fun a hf => ?_
      obtain ⟨hc6, hF⟩ := of_guard hF
      obtain ⟨ad7, c7, he7, hl7⟩ := Ro.el cProd h0 zProd hc6.1 hc6.2
      refine st hf rfl rfl (by decide) (r_idx Try.underlying22 sz123 hf rfl ⟨_, he7⟩ rfl hc6.1 hc6.2) fun a hf => ?_
      refine st hf rfl rfl (by decide) (r_load_agg ty123 hf rfl (hl7.below hw.below) (cProd.len _)) fun a hf => ?_
      obtain ⟨x8, hx9, hF⟩ := of_bind hF
      refine st_fn 3 hw hf rfl rfl (by decide) (r_fn en124 hf rfl) (laws_toProduct_ok  hx9) fun a v w ρ hf hw hE hN hΦ => ?_
      obtain rfl := hΦ
      replace o2 := o2.ext hE
      obtain ⟨hc10, hF⟩ := of_guard hF
      obtain ⟨ad11, hl11⟩ := Ow.ce (d := cProd) o2 zProd hc10.1 hc10.2
      refine st hf rfl rfl (by decide) (r_idx Try.underlying26 sz78 hf rfl hl11.at_ rfl hc10.1 hc10.2) fun a hf => ?_
      refine st_skip hf rfl rfl (r_store_ec (b := x8) zProd hw (by decide) o2 hc10.1 hc10.2 (Lens.id _) hl11.at_ ty78 (by first | rfl | exact Nat.add_assoc _ _ _ | (simp only [Nat.add_assoc]; rfl)) hf rfl rfl rfl) fun a w hf hΦ => ?_
      obtain ⟨hw, hA, o2⟩ := hΦ
      refine c_nil ?_
      refine n_block ?_
      refine n_then ?_
      refine c_region ?_
      refine st hf rfl rfl (by decide) (r_move hf rfl) fun a hf => ?_
      refine st hf rfl rfl (by decide) (r_add hf rfl rfl) fun a hf => ?_
      refine st hf rfl rfl (by decide) (r_assign hf rfl) fun a hf => ?_
      refine c_nil ?_
      obtain rfl := Option.some.inj hF
      exact Rnd.goes ⟨_, hw, hf.sub ⟨rfl, rfl, rfl, trivial⟩, o2⟩
    · refine c_iff hf rfl hb5 ?_
      refine c_exit ?_
      refine x_then ?_
      obtain rfl := Option.some.inj hF
      exact Rnd.stops ⟨_, hw, hf.sub ⟨rfl, trivial⟩, o2⟩
  · rintro ⟨s3, s4⟩ a w hs ⟨ρ, hw, hf, o2⟩
    subst hs
    replace hf : Fr 23 a [(3, v2)] := hf
    replace o2 : Ow (kf cProd) 78 ρ w w0.heap.size 2 v2 s4 := o2
    have hF := hG2
    dsimp only at hF
    refine x_block ?_
    refine n_then ?_
    refine c_seq ?_
    refine c_region ?_
    refine st hf rfl rfl (by decide) (r_move hf rfl) fun a hf => ?_
    refine st hf rfl rfl (by decide) (r_assign hf rfl) fun a hf => ?_
    refine c_nt ?_
    refine c_retc ?_
    obtain rfl := Option.some.inj hF
    refine c_ret hf (res_tmp Try.results64 hf rfl) ?_
    exact ⟨_, rfl, hw.below, ⟨_, rfl, o2.out⟩⟩
/-! f15 -/
noncomputable def laws_toScheme (a0 : Sch) : Option Sch :=
  (laws_toProductS a0.ps).bind fun x1 => some ((⟨a0.p, a0.n, a0.m, a0.k, x1⟩ : Sch))
theorem laws_toScheme_ok {w0 : World} {a0 : Sch} {va0 : Value} (h0 : Ro (kf cProd) w0 va0 a0.ps) {r : Sch} (hF : laws_toScheme a0 = some r) :
    Calls Try.prog 15 [.agg ([.int .i64 a0.p, .int .i64 a0.n, .int .i64 a0.m, .int .i64 a0.k, va0]).toArray].toArray w0 fun e w => ∃ v, e = .returned v ∧ Below w0.heap.size w0 w ∧ ∃ u0, .agg [.int .i64 r.p, .int .i64 r.n, .int .i64 r.m, .int .i64 r.k, u0].toArray = v ∧ Fresh (kf cProd) 78 w0 w u0 r.ps := by
  refine calls_of (k := 21) Try.func15 rfl rfl (Nat.le_of_ble_eq_true rfl) fun a hf => ?_
  replace hf : Fr 21 a [(0, .agg ([.int .i64 a0.p, .int .i64 a0.n, .int .i64 a0.m, .int .i64 a0.k, va0]).toArray)] := hf
  refine c_start fun w ρ hw => ?_
  unfold laws_toScheme at hF
  refine c_seq ?_
  refine c_region ?_
  refine st_ex hf rfl rfl (by decide) (r_box (cs := [.int .i64 a0.p, .int .i64 a0.n, .int .i64 a0.m, .int .i64 a0.k, va0]) 1 hw hf rfl rfl) fun a v w hf hΦ => ?_
  obtain ⟨g1, ρ, rfl, hw, hE, o1⟩ := hΦ
  have o3 : Ow (kf cProd) 78 ρ w w0.heap.size 3 (.slice none 0 0) [] := Ow.nil _ _ _ _ _ _
  refine st_ex hf rfl rfl (by decide) (r_alloc (cs := [.int .i64 0, .int .i64 0, .int .i64 0, .int .i64 0, (.slice none 0 0)]) 2 ze28 rfl hw) fun a v w hf hΦ => ?_
  obtain ⟨g2, ρ, rfl, hw, hE, o2⟩ := hΦ
  replace o1 := o1.ext hE
  replace o3 := o3.ext hE
  refine c_nt ?_
  refine c_seq ?_
  refine c_region ?_
  have o5 : Ow (kf cProd) 78 ρ w w0.heap.size 5 (.slice none 0 0) [] := Ow.nil _ _ _ _ _ _
  refine st_ex hf rfl rfl (by decide) (r_alloc (cs := [.int .i64 0, .int .i64 0, .int .i64 0, .int .i64 0, (.slice none 0 0)]) 4 ze28 rfl hw) fun a v w hf hΦ => ?_
  obtain ⟨g4, ρ, rfl, hw, hE, o4⟩ := hΦ
  replace o1 := o1.ext hE
  replace o3 := o3.ext hE
  replace o2 := o2.ext hE
  replace o5 := o5.ext hE
  refine c_nt ?_
  refine c_seq ?_
  refine c_region ?_
  refine st hf rfl rfl (by decide) (r_fa fa24_0 hf rfl) fun a hf => ?_
  refine st hf rfl rfl (by decide) (r_load_cell ty2 hf rfl (o1.cl.at_ 0 _ rfl)) fun a hf => ?_
  refine st hf rfl rfl (by decide) (r_fa fa28_0 hf rfl) fun a hf => ?_
  refine st_skip hf rfl rfl (r_store_c hw o4 (by decide) ty2 (Nat.le_of_ble_eq_true rfl) hf rfl rfl rfl rfl) fun a w hf hΦ => ?_
  obtain ⟨hw, hA, o4⟩ := hΦ
  replace o1 := o1.adv hA (by decide)
  replace o3 := o3.adv hA (by decide)
  replace o2 := o2.adv hA (by decide)
  replace o5 := o5.adv hA (by decide)
  replace o4 : Va ρ w 4 g4 28 ([.int .i64 a0.p, .int .i64 0, .int .i64 0, .int .i64 0, (.slice none 0 0)]) := o4
  refine c_nt ?_
  refine c_seq ?_
  refine c_region ?_
  refine st hf rfl rfl (by decide) (r_fa fa24_1 hf rfl) fun a hf => ?_
  refine st hf rfl rfl (by decide) (r_load_cell ty2 hf rfl (o1.cl.at_ 1 _ rfl)) fun a hf => ?_
  refine st hf rfl rfl (by decide) (r_fa fa28_1 hf rfl) fun a hf => ?_
  refine st_skip hf rfl rfl (r_store_c hw o4 (by decide) ty2 (Nat.le_of_ble_eq_true rfl) hf rfl rfl rfl rfl) fun a w hf hΦ => ?_
  obtain ⟨hw, hA, o4⟩ := hΦ
  replace o1 := o1.adv hA (by decide)
  replace o3 := o3.adv hA (by decide)
  replace o2 := o2.adv hA (by decide)
  replace o5 := o5.adv hA (by decide)
  replace o4 : Va ρ w 4 g4 28 ([.int .i64 a0.p, .int .i64 a0.n, .int .i64 0, .int .i64 0, (.slice none 0 0)]) := o4
  refine c_nt ?_
  refine c_seq ?_
  refine c_region ?_
  refine st hf rfl rfl (by decide) (r_fa fa24_2 hf rfl) fun a hf => ?_
  refine st hf rfl rfl (by decide) (r_load_cell ty2 hf rfl (o1.cl.at_ 2 _ rfl)) fun a hf => ?_
  refine st hf rfl rfl (by decide) (r_fa fa28_2 hf rfl) fun a hf => ?_
  refine st_skip hf rfl rfl (r_store_c hw o4 (by decide) ty2 (Nat.le_of_ble_eq_true rfl) hf rfl rfl rfl rfl) fun a w hf hΦ => ?_
  obtain ⟨hw, hA, o4⟩ := hΦ
  replace o1 := o1.adv hA (by decide)
  replace o3 := o3.adv hA (by decide)
  replace o2 := o2.adv hA (by decide)
  replace o5 := o5.adv hA (by decide)
  replace o4 : Va ρ w 4 g4 28 ([.int .i64 a0.p, .int .i64 a0.n, .int .i64 a0.m, .int .i64 0, (.slice none 0 0)]) := o4
  refine c_nt ?_
  refine c_seq ?_
  refine c_region ?_
  refine st hf rfl rfl (by decide) (r_fa fa24_3 hf rfl) fun a hf => ?_
  refine st hf rfl rfl (by decide) (r_load_cell ty2 hf rfl (o1.cl.at_ 3 _ rfl)) fun a hf => ?_
  refine st hf rfl rfl (by decide) (r_fa fa28_3 hf rfl) fun a hf => ?_
  refine st_skip hf rfl rfl (r_store_c hw o4 (by decide) ty2 (Nat.le_of_ble_eq_true rfl) hf rfl rfl rfl rfl) fun a w hf hΦ => ?_
  obtain ⟨hw, hA, o4⟩ := hΦ
  replace o1 := o1.adv hA (by decide)
  replace o3 := o3.adv hA (by decide)
  replace o2 := o2.adv hA (by decide)
  replace o5 := o5.adv hA (by decide)
  replace o4 : Va ρ w 4 g4 28 ([.int .i64 a0.p, .int .i64 a0.n, .int .i64 a0.m, .int .i64 a0.k, (.slice none 0 0)]) := o4
  refine c_nt ?_
  refine c_seq ?_
  refine c_region ?_
  refine st hf rfl rfl (by decide) (r_fa fa24_4 hf rfl) fun a hf => ?_
  refine st hf rfl rfl (by decide) (r_load_cell ty22 hf rfl (o1.cl.at_ 4 _ rfl)) fun a hf => ?_
  obtain ⟨x1, hx2, hF⟩ := of_bind hF
  refine st_fn 6 hw hf rfl rfl (by decide) (r_fn en64 hf rfl) (laws_toProductS_ok (h0.now hw) hx2) fun a v w ρ hf hw hE hN hΦ => ?_
  obtain ⟨u3, rfl, hr4⟩ := hΦ
  replace o1 := o1.ext hE
  replace o3 := o3.ext hE
  replace o2 := o2.ext hE
  replace o5 := o5.ext hE
  replace o4 := o4.ext hE
  have o6 := hN hr4
  refine st hf rfl rfl (by decide) (r_fa fa28_4 hf rfl) fun a hf => ?_
  refine st_skip hf rfl rfl (r_store_c hw o4 (by decide) ty26 (Nat.le_of_ble_eq_true rfl) hf rfl rfl o6.ro.cells1 o6.ro.one) fun a w hf hΦ => ?_
  obtain ⟨hw, hA, o4⟩ := hΦ
  replace o1 := o1.adv hA (by decide)
  replace o3 := o3.adv hA (by decide)
  replace o2 := o2.adv hA (by decide)
  replace o5 := o5.adv hA (by decide)
  replace o6 := o6.adv hA (by decide)
  replace o4 : Va ρ w 4 g4 28 ([.int .i64 a0.p, .int .i64 a0.n, .int .i64 a0.m, .int .i64 a0.k, u3]) := o4
  refine c_nt ?_
  refine c_seq ?_
  refine c_region ?_
  refine st hf rfl rfl (by decide) (r_load_agg ty28 hf rfl o4.cl rfl) fun a hf => ?_
  refine st_skip hf rfl rfl (r_store_w (cs' := [.int .i64 a0.p, .int .i64 a0.n, .int .i64 a0.m, .int .i64 a0.k, u3]) hw o2 (by decide) ty28 rfl rfl (one_sch o6.ro.one) hf rfl rfl rfl) fun a w hf hΦ => ?_
  obtain ⟨hw, hA, o2⟩ := hΦ
  replace o1 := o1.adv hA (by decide)
  replace o3 := o3.adv hA (by decide)
  replace o5 := o5.adv hA (by decide)
  replace o4 := o4.adv hA (by decide)
  replace o6 := o6.adv hA (by decide)
  refine c_nt ?_
  refine c_retc ?_
  obtain rfl := Option.some.inj hF
  refine c_ret hf (res_cell Try.results15 ty28 hf rfl o2.cl rfl) ?_
  exact ⟨_, rfl, hw.below, ⟨_, rfl, o6.out⟩⟩
/-! f161 -/
noncomputable def laws_eqForm_l1 (a0 : Form) (a1 : Form) (s2 : Int) : Option (LR Int Bool) :=
  if (decide (s2 < 9)) = true then (if 0 ≤ s2 ∧ s2 < 9 then (if (decide (((vg 0 a0 s2).toNat : Int) ≠ ((vg 0 a1 s2).toNat : Int))) = true then (some (.ret false)) else (some (.next (w64 (s2 + 1))))) else none) else (some (.stop s2))
noncomputable def laws_eqForm (a0 : Form) (a1 : Form) : Option Bool :=
  (iter (fun s => laws_eqForm_l1 a0 a1 s) 0).bind fun o => match o with | .stop s2 => (some (true)) | .ret r => some r | .next _ => none
theorem laws_eqForm_ok {w0 : World} {a0 : Form} {a1 : Form}   {r : Bool} (hF : laws_eqForm a0 a1 = some r) :
    Calls Try.prog 161 [.agg (cForm.enc a0).toArray, .agg (cForm.enc a1).toArray].toArray w0 fun e w => ∃ v, e = .returned v ∧ Below w0.heap.size w0 w ∧ .bool r = v := by
  refine calls_of (k := 17) Try.func161 rfl rfl (Nat.le_of_ble_eq_true rfl) fun a hf => ?_
  replace hf : Fr 17 a [(0, .agg (cForm.enc a0).toArray), (1, .agg (cForm.enc a1).toArray)] := hf
  refine c_start fun w ρ hw => ?_
  unfold laws_eqForm at hF
  refine c_seq ?_
  refine c_region ?_
  refine st_ex hf rfl rfl (by decide) (r_box (cs := cForm.enc a0) 1 hw hf rfl rfl) fun a v w hf hΦ => ?_
  obtain ⟨g1, ρ, rfl, hw, hE, o1⟩ := hΦ
  refine st_ex hf rfl rfl (by decide) (r_box (cs := cForm.enc a1) 2 hw hf rfl rfl) fun a v w hf hΦ => ?_
  obtain ⟨g2, ρ, rfl, hw, hE, o2⟩ := hΦ
  replace o1 := o1.ext hE
  refine st hf rfl rfl (by decide) (r_assign hf rfl) fun a hf => ?_
  refine c_nt ?_
  refine c_seq ?_
  refine c_seq ?_
  refine c_region ?_
  refine st hf rfl rfl (by decide) (r_assign hf rfl) fun a hf => ?_
  refine c_nt ?_
  obtain ⟨ol1, ho1, hG1⟩ := of_bind hF
  clear hF
  refine c_block (c_loop (id := 0) (fun s => laws_eqForm_l1 a0 a1 s) (fun (s : Int) a w => ∃ ρ, Wd w0 ρ w ∧ Fr 17 a [(2, .pointer (some ((⟨g1, 0, none⟩ : Addr).add 0))), (3, .pointer (some ((⟨g2, 0, none⟩ : Addr).add 0))), (5, .int .i64 s)] ∧ Va ρ w 1 g1 39 (cForm.enc a0) ∧ Va ρ w 2 g2 39 (cForm.enc a1)) (fun (s : Int) a w => ∃ ρ, Wd w0 ρ w ∧ Fr 17 a []) ho1 ⟨_, hw, hf.sub ⟨rfl, rfl, rfl, trivial⟩, o1, o2⟩ ?_ ?_)
  · rintro s2 lr a w ⟨ρ, hw, hf, o1, o2⟩ hF
    replace hf : Fr 17 a [(2, .pointer (some ((⟨g1, 0, none⟩ : Addr).add 0))), (3, .pointer (some ((⟨g2, 0, none⟩ : Addr).add 0))), (5, .int .i64 s2)] := hf
    replace o1 : Va ρ w 1 g1 39 (cForm.enc a0) := o1
    replace o2 : Va ρ w 2 g2 39 (cForm.enc a1) := o2
    replace hF : laws_eqForm_l1 a0 a1 s2 = some lr := hF
    unfold laws_eqForm_l1 at hF
    refine c_seq ?_
    refine c_seq ?_
    refine c_region ?_
    refine st hf rfl rfl (by decide) (r_move hf rfl) fun a hf => ?_
    refine st hf rfl rfl (by decide) (r_lss hf rfl rfl) fun a hf => ?_
    refine c_nt ?_
    rcases of_ite hF with ⟨hb3, hF⟩ | ⟨hb3, hF⟩
    · refine c_ift hf rfl hb3 ?_
      refine c_skip ?_
      refine n_then ?_
      refine c_seq ?_
      refine c_block ?_
      refine c_seq ?_
      obtain ⟨hc4, hF⟩ := of_guard hF
      replace hf : Fr 17 a [(2, .pointer (some ((⟨g1, 0, none⟩ : Addr).add 0))), (3, .pointer (some ((⟨g2, 0, none⟩ : Addr).add 0))), (5, .int .i64 s2)] := hf.sub ⟨rfl, rfl, rfl, trivial⟩
      refine c_drawL (h := 6) mixed (by kernel_rfl) (by kernel_rfl) (fun ρ w => Va ρ w 1 g1 39 (cForm.enc a0) ∧ Va ρ w 2 g2 39 (cForm.enc a1)) ?_ [fun ρ w v => .int .i64 s2 = v, fun ρ w v => .pointer (some ((⟨g1, 0, none⟩ : Addr).add (0 + s2.toNat * 1))) = v, fun ρ w v => .int .u8 ((vg 0 a0 s2).toNat : Int) = v, fun ρ w v => .int .i64 s2 = v, fun ρ w v => .pointer (some ((⟨g2, 0, none⟩ : Addr).add (0 + s2.toNat * 1))) = v, fun ρ w v => .int .u8 ((vg 0 a1 s2).toNat : Int) = v] ?_ hw ⟨o1, o2⟩ hf ?_ ?_
      · intro ρ w ρ' w' hE hG
        obtain ⟨o1, o2⟩ := hG
        exact ⟨o1.ext hE, o2.ext hE⟩
      · exact LastsL.cons (fun _ _ _ _ _ _ h => h) <| LastsL.cons (fun _ _ _ _ _ _ h => h) <| LastsL.cons (fun _ _ _ _ _ _ h => h) <| LastsL.cons (fun _ _ _ _ _ _ h => h) <| LastsL.cons (fun _ _ _ _ _ _ h => h) <| LastsL.cons (fun _ _ _ _ _ _ h => h) <| LastsL.nil
      · refine StepsB.cons ?_ <| StepsB.cons ?_ <| StepsB.cons ?_ <| StepsB.cons ?_ <| StepsB.cons ?_ <| StepsB.cons ?_ <| StepsB.nil
        · intro ρ w a hw hG hf hd K hK
          obtain ⟨o1, o2⟩ := hG
          exact d_val (R := fun ρ w v => .int .i64 s2 = v) hw (wn rfl) (r_move hf rfl) rfl rfl hK
        · intro ρ w a hw hG hf hd K hK
          obtain ⟨o1, o2⟩ := hG
          obtain ⟨_, ht, rfl⟩ := hd 0 (by kernel_rfl)
          replace hf := hf.more ht
          exact d_val (R := fun ρ w v => .pointer (some ((⟨g1, 0, none⟩ : Addr).add (0 + s2.toNat * 1))) = v) hw (wn rfl) (r_indexAddr_arr Try.underlying39 sz5 hf rfl rfl hc4.1 hc4.2) rfl rfl hK
        · intro ρ w a hw hG hf hd K hK
          obtain ⟨o1, o2⟩ := hG
          obtain ⟨_, ht, rfl⟩ := hd 1 (by kernel_rfl)
          replace hf := hf.more ht
          exact d_val (R := fun ρ w v => .int .u8 ((vg 0 a0 s2).toNat : Int) = v) hw (wn rfl) (r_load_cell ty5 hf rfl (o1.cl.lens (Lens.vec 0 fU8 s2 hc4.1 hc4.2))) rfl rfl hK
        · intro ρ w a hw hG hf hd K hK
          obtain ⟨o1, o2⟩ := hG
          exact d_val (R := fun ρ w v => .int .i64 s2 = v) hw (wn rfl) (r_move hf rfl) rfl rfl hK
        · intro ρ w a hw hG hf hd K hK
          obtain ⟨o1, o2⟩ := hG
          obtain ⟨_, ht, rfl⟩ := hd 3 (by kernel_rfl)
          replace hf := hf.more ht
          exact d_val (R := fun ρ w v => .pointer (some ((⟨g2, 0, none⟩ : Addr).add (0 + s2.toNat * 1))) = v) hw (wn rfl) (r_indexAddr_arr Try.underlying39 sz5 hf rfl rfl hc4.1 hc4.2) rfl rfl hK
        · intro ρ w a hw hG hf hd K hK
          obtain ⟨o1, o2⟩ := hG
          obtain ⟨_, ht, rfl⟩ := hd 4 (by kernel_rfl)
          replace hf := hf.more ht
          exact d_val (R := fun ρ w v => .int .u8 ((vg 0 a1 s2).toNat : Int) = v) hw (wn rfl) (r_load_cell ty5 hf rfl (o2.cl.lens (Lens.vec 0 fU8 s2 hc4.1 hc4.2))) rfl rfl hK
      · intro ρ w a hw hG hf hd
        obtain ⟨o1, o2⟩ := hG
        replace hf : Fr 17 a [(2, .pointer (some ((⟨g1, 0, none⟩ : Addr).add 0))), (3, .pointer (some ((⟨g2, 0, none⟩ : Addr).add 0))), (5, .int .i64 s2)] := hf
        obtain ⟨_, ht, rfl⟩ := hd 2 (by decide)
        replace hf := hf.more ht
        obtain ⟨_, ht, rfl⟩ := hd 5 (by decide)
        replace hf := hf.more ht
        refine st hf rfl rfl (by decide) (r_neq hf rfl rfl) fun a hf => ?_
        refine c_nt ?_
        rcases of_ite hF with ⟨hb5, hF⟩ | ⟨hb5, hF⟩
        · refine c_ift hf rfl hb5 ?_
          refine c_seq ?_
          refine c_region ?_
          refine st hf rfl rfl (by decide) (r_assign hf rfl) fun a hf => ?_
          refine c_nt ?_
          refine c_retc ?_
          obtain rfl := Option.some.inj hF
          refine r_block ?_
          refine r_then ?_
          refine Rnd.rets fun ho => ?_
          subst ho
          have hF := hG1
          dsimp only at hF
          obtain rfl := Option.some.inj hF
          refine r_block ?_
          refine r_then ?_
          refine c_ret hf (res_tmp Try.results161 hf rfl) ?_
          exact ⟨_, rfl, hw.below, rfl⟩
        · refine c_iff hf rfl hb5 ?_
          refine c_skip ?_
          refine n_block ?_
          refine n_then ?_
          refine c_region ?_
          refine st hf rfl rfl (by decide) (r_move hf rfl) fun a hf => ?_
          refine st hf rfl rfl (by decide) (r_add hf rfl rfl) fun a hf => ?_
          refine st hf rfl rfl (by decide) (r_assign hf rfl) fun a hf => ?_
          refine c_nil ?_
          obtain rfl := Option.some.inj hF
          exact Rnd.goes ⟨_, hw, hf.sub ⟨rfl, rfl, rfl, trivial⟩, o1, o2⟩
    · refine c_iff hf rfl hb3 ?_
      refine c_exit ?_
      refine x_then ?_
      obtain rfl := Option.some.inj hF
      exact Rnd.stops ⟨_, hw, hf.sub trivial⟩
  · rintro s2 a w hs ⟨ρ, hw, hf⟩
    subst hs
    replace hf : Fr 17 a [] := hf
    have hF := hG1
    dsimp only at hF
    refine x_block ?_
    refine n_then ?_
    refine c_seq ?_
    refine c_region ?_
    refine st hf rfl rfl (by decide) (r_assign hf rfl) fun a hf => ?_
    refine c_nt ?_
    refine c_retc ?_
    obtain rfl := Option.some.inj hF
    refine c_ret hf (res_tmp Try.results161 hf rfl) ?_
    exact ⟨_, rfl, hw.below, rfl⟩
/-! f126 -/
noncomputable def laws_eqProduct (a0 : Prod) (a1 : Prod) : Option Bool :=
  (laws_eqForm a0.1 a1.1).bind fun x1 => if (!x1) = true then (some (false)) else ((laws_eqForm a0.2.1 a1.2.1).bind fun x4 => if (!x4) = true then (some (false)) else ((laws_eqForm a0.2.2 a1.2.2).bind fun x7 => if (!x7) = true then (some (false)) else (some (true))))
theorem laws_eqProduct_ok {w0 : World} {a0 : Prod} {a1 : Prod}   {r : Bool} (hF : laws_eqProduct a0 a1 = some r) :
    Calls Try.prog 126 [.agg (cProd.enc a0).toArray, .agg (cProd.enc a1).toArray].toArray w0 fun e w => ∃ v, e = .returned v ∧ Below w0.heap.size w0 w ∧ .bool r = v := by
  refine calls_of (k := 23) Try.func126 rfl rfl (Nat.le_of_ble_eq_true rfl) fun a hf => ?_
  replace hf : Fr 23 a [(0, .agg (cProd.enc a0).toArray), (1, .agg (cProd.enc a1).toArray)] := hf
  refine c_start fun w ρ hw => ?_
  unfold laws_eqProduct at hF
  refine c_seq ?_
  refine c_region ?_
  refine st_ex hf rfl rfl (by decide) (r_box (cs := cProd.enc a0) 1 hw hf rfl rfl) fun a v w hf hΦ => ?_
  obtain ⟨g1, ρ, rfl, hw, hE, o1⟩ := hΦ
  refine st_ex hf rfl rfl (by decide) (r_box (cs := cProd.enc a1) 2 hw hf rfl rfl) fun a v w hf hΦ => ?_
  obtain ⟨g2, ρ, rfl, hw, hE, o2⟩ := hΦ
  replace o1 := o1.ext hE
  refine st hf rfl rfl (by decide) (r_assign hf rfl) fun a hf => ?_
  refine c_nt ?_
  refine c_seq ?_
  refine c_seq ?_
  refine c_region ?_
  refine st hf rfl rfl (by decide) (r_fa fa78_0 hf rfl) fun a hf => ?_
  refine st hf rfl rfl (by decide) (r_load_agg ty39 hf rfl (o1.cl.lens lProd_0) (cForm.len _)) fun a hf => ?_
  refine st hf rfl rfl (by decide) (r_fa fa78_0 hf rfl) fun a hf => ?_
  refine st hf rfl rfl (by decide) (r_load_agg ty39 hf rfl (o2.cl.lens lProd_0) (cForm.len _)) fun a hf => ?_
  obtain ⟨x1, hx2, hF⟩ := of_bind hF
  refine st_fn 3 hw hf rfl rfl (by decide) (r_fn en161 hf rfl) (laws_eqForm_ok  hx2) fun a v w ρ hf hw hE hN hΦ => ?_
  obtain rfl := hΦ
  replace o1 := o1.ext hE
  replace o2 := o2.ext hE
  refine st hf rfl rfl (by decide) (r_not hf rfl) fun a hf => ?_
  refine c_nt ?_
  rcases of_ite hF with ⟨hb3, hF⟩ | ⟨hb3, hF⟩
  · refine c_ift hf rfl hb3 ?_
    refine c_seq ?_
    refine c_region ?_
    refine st hf rfl rfl (by decide) (r_assign hf rfl) fun a hf => ?_
    refine c_nt ?_
    refine c_retc ?_
    obtain rfl := Option.some.inj hF
    refine r_then ?_
    refine c_ret hf (res_tmp Try.results126 hf rfl) ?_
    exact ⟨_, rfl, hw.below, rfl⟩
  · refine c_iff hf rfl hb3 ?_
    refine c_skip ?_
    refine n_then ?_
    refine c_seq ?_
    refine c_seq ?_
    refine c_region ?_
    refine st hf rfl rfl (by decide) (r_fa fa78_1 hf rfl) fun a hf => ?_
    refine st hf rfl rfl (by decide) (r_load_agg ty39 hf rfl (o1.cl.lens lProd_1) (cForm.len _)) fun a hf => ?_
    refine st hf rfl rfl (by decide) (r_fa fa78_1 hf rfl) fun a hf => ?_
    refine st hf rfl rfl (by decide) (r_load_agg ty39 hf rfl (o2.cl.lens lProd_1) (cForm.len _)) fun a hf => ?_
    obtain ⟨x4, hx5, hF⟩ := of_bind hF
    refine st_fn 4 hw hf rfl rfl (by decide) (r_fn en161 hf rfl) (laws_eqForm_ok  hx5) fun a v w ρ hf hw hE hN hΦ => ?_
    obtain rfl := hΦ
    replace o1 := o1.ext hE
    replace o2 := o2.ext hE
    refine st hf rfl rfl (by decide) (r_not hf rfl) fun a hf => ?_
    refine c_nt ?_
    rcases of_ite hF with ⟨hb6, hF⟩ | ⟨hb6, hF⟩
    · refine c_ift hf rfl hb6 ?_
      refine c_seq ?_
      refine c_region ?_
      refine st hf rfl rfl (by decide) (r_assign hf rfl) fun a hf => ?_
      refine c_nt ?_
      refine c_retc ?_
      obtain rfl := Option.some.inj hF
      refine r_then ?_
      refine c_ret hf (res_tmp Try.results126 hf rfl) ?_
      exact ⟨_, rfl, hw.below, rfl⟩
    · refine c_iff hf rfl hb6 ?_
      refine c_skip ?_
      refine n_then ?_
      refine c_seq ?_
      refine c_seq ?_
      refine c_region ?_
      refine st hf rfl rfl (by decide) (r_fa fa78_2 hf rfl) fun a hf => ?_
      refine st hf rfl rfl (by decide) (r_load_agg ty39 hf rfl (o1.cl.lens lProd_2) (cForm.len _)) fun a hf => ?_
      refine st hf rfl rfl (by decide) (r_fa fa78_2 hf rfl) fun a hf => ?_
      refine st hf rfl rfl (by decide) (r_load_agg ty39 hf rfl (o2.cl.lens lProd_2) (cForm.len _)) fun a hf => ?_
      obtain ⟨x7, hx8, hF⟩ := of_bind hF
      refine st_fn 5 hw hf rfl rfl (by decide) (r_fn en161 hf rfl) (laws_eqForm_ok  hx8) fun a v w ρ hf hw hE hN hΦ => ?_
      obtain rfl := hΦ
      replace o1 := o1.ext hE
      replace o2 := o2.ext hE
      refine st hf rfl rfl (by decide) (r_not hf rfl) fun a hf => ?_
      refine c_nt ?_
      rcases of_ite hF with ⟨hb9, hF⟩ | ⟨hb9, hF⟩
      · refine c_ift hf rfl hb9 ?_
        refine c_seq ?_
        refine c_region ?_
        refine st hf rfl rfl (by decide) (r_assign hf rfl) fun a hf => ?_
        refine c_nt ?_
        refine c_retc ?_
        obtain rfl := Option.some.inj hF
        refine r_then ?_
        refine c_ret hf (res_tmp Try.results126 hf rfl) ?_
        exact ⟨_, rfl, hw.below, rfl⟩
      · refine c_iff hf rfl hb9 ?_
        refine c_skip ?_
        refine n_then ?_
        refine c_seq ?_
        refine c_region ?_
        refine st hf rfl rfl (by decide) (r_assign hf rfl) fun a hf => ?_
        refine c_nt ?_
        refine c_retc ?_
        obtain rfl := Option.some.inj hF
        refine c_ret hf (res_tmp Try.results126 hf rfl) ?_
        exact ⟨_, rfl, hw.below, rfl⟩
/-! f66 -/
noncomputable def laws_eqProductS_l2 (a0 : List Prod) (a1 : List Prod) (s3 : Int) : Option (LR Int Bool) :=
  if (decide (s3 < (a0.length : Int))) = true then (if 0 ≤ s3 ∧ s3 < (a0.length : Int) then (if 0 ≤ s3 ∧ s3 < (a1.length : Int) then ((laws_eqProduct (gl zProd a0 s3) (gl zProd a1 s3)).bind fun x9 => if (!x9) = true then (some (.ret false)) else (some (.next (w64 (s3 + 1))))) else none) else none) else (some (.stop s3))
noncomputable def laws_eqProductS (a0 : List Prod) (a1 : List Prod) : Option Bool :=
  if (decide ((a0.length : Int) ≠ (a1.length : Int))) = true then (some (false)) else ((iter (fun s => laws_eqProductS_l2 a0 a1 s) 0).bind fun o => match o with | .stop s3 => (some (true)) | .ret r => some r | .next _ => none)
theorem laws_eqProductS_ok {w0 : World} {a0 : List Prod} {a1 : List Prod} {va0 : Value} {va1 : Value} (h0 : Ro (kf cProd) w0 va0 a0) (h1 : Ro (kf cProd) w0 va1 a1) {r : Bool} (hF : laws_eqProductS a0 a1 = some r) :
    Calls Try.prog 66 [va0, va1].toArray w0 fun e w => ∃ v, e = .returned v ∧ Below w0.heap.size w0 w ∧ .bool r = v := by
  refine calls_of (k := 27) Try.func66 rfl rfl (Nat.le_of_ble_eq_true rfl) fun a hf => ?_
  replace hf : Fr 27 a [(0, va0), (1, va1)] := hf
  refine c_start fun w ρ hw => ?_
  unfold laws_eqProductS at hF
  refine c_seq ?_
  refine c_region ?_
  refine st hf rfl rfl (by decide) (r_assign hf rfl) fun a hf => ?_
  refine c_nt ?_
  refine c_seq ?_
  refine c_seq ?_
  refine c_region ?_
  refine st hf rfl rfl (by decide) (r_move hf rfl) fun a hf => ?_
  refine st hf rfl rfl (by decide) (r_len Try.underlying26 (h0.now hw) hf rfl) fun a hf => ?_
  refine st hf rfl rfl (by decide) (r_move hf rfl) fun a hf => ?_
  refine st hf rfl rfl (by decide) (r_len Try.underlying26 (h1.now hw) hf rfl) fun a hf => ?_
  refine st hf rfl rfl (by decide) (r_neq hf rfl rfl) fun a hf => ?_
  refine c_nt ?_
  rcases of_ite hF with ⟨hb1, hF⟩ | ⟨hb1, hF⟩
  · refine c_ift hf rfl hb1 ?_
    refine c_seq ?_
    refine c_region ?_
    refine st hf rfl rfl (by decide) (r_assign hf rfl) fun a hf => ?_
    refine c_nt ?_
    refine c_retc ?_
    obtain rfl := Option.some.inj hF
    refine r_then ?_
    refine c_ret hf (res_tmp Try.results66 hf rfl) ?_
    exact ⟨_, rfl, hw.below, rfl⟩
  · refine c_iff hf rfl hb1 ?_
    refine c_skip ?_
    refine n_then ?_
    refine c_seq ?_
    refine c_seq ?_
    refine c_region ?_
    refine st hf rfl rfl (by decide) (r_assign hf rfl) fun a hf => ?_
    refine c_nt ?_
    obtain ⟨ol2, ho2, hG2⟩ := of_bind hF
    clear hF
    refine c_block (c_loop (id := 0) (fun s => laws_eqProductS_l2 a0 a1 s) (fun (s : Int) a w => ∃ ρ, Wd w0 ρ w ∧ Fr 27 a [(0, va0), (1, va1), (5, .int .i64 s)]) (fun (s : Int) a w => ∃ ρ, Wd w0 ρ w ∧ Fr 27 a []) ho2 ⟨_, hw, hf.sub ⟨rfl, rfl, rfl, trivial⟩⟩ ?_ ?_)
    · rintro s3 lr a w ⟨ρ, hw, hf⟩ hF
      replace hf : Fr 27 a [(0, va0), (1, va1), (5, .int .i64 s3)] := hf
      replace hF : laws_eqProductS_l2 a0 a1 s3 = some lr := hF
      unfold laws_eqProductS_l2 at hF
      refine c_seq ?_
      refine c_seq ?_
      refine c_region ?_
      refine st hf rfl rfl (by decide) (r_move hf rfl) fun a hf => ?_
      refine st hf rfl rfl (by decide) (r_move hf rfl) fun a hf => ?_
      refine st hf rfl rfl (by decide) (r_len Try.underlying26 (h0.now hw) hf rfl) fun a hf => ?_
      refine st hf rfl rfl (by decide) (r_lss hf rfl rfl) fun a hf => ?_
      refine c_nt ?_
      rcases of_ite hF with ⟨hb4, hF⟩ | ⟨hb4, hF⟩
      · refine c_ift hf rfl hb4 ?_
        refine c_skip ?_
        refine n_then ?_
        refine c_seq ?_
        refine c_block ?_
        refine c_seq ?_
        obtain ⟨hc5, hF⟩ := of_guard hF
        obtain ⟨ad6, c6, he6, hl6⟩ := Ro.el cProd h0 zProd hc5.1 hc5.2
        obtain ⟨hc7, hF⟩ := of_guard hF
        obtain ⟨ad8, c8, he8, hl8⟩ := Ro.el cProd h1 zProd hc7.1 hc7.2
        replace hf : Fr 27 a [(0, va0), (1, va1), (5, .int .i64 s3)] := hf.sub ⟨rfl, rfl, rfl, trivial⟩
        refine c_drawL (h := 8) mixed (by kernel_rfl) (by kernel_rfl) (fun ρ w => True) ?_ [fun ρ w v => va0 = v, fun ρ w v => .int .i64 s3 = v, fun ρ w v => .pointer (some (ad6.add (s3.toNat * 27))) = v, fun ρ w v => .agg (cProd.enc (gl zProd a0 s3)).toArray = v, fun ρ w v => va1 = v, fun ρ w v => .int .i64 s3 = v, fun ρ w v => .pointer (some (ad8.add (s3.toNat * 27))) = v, fun ρ w v => .agg (cProd.enc (gl zProd a1 s3)).toArray = v] ?_ hw trivial hf ?_ ?_
        · intro ρ w ρ' w' hE hG
          skip
          exact trivial
        · exact LastsL.cons (fun _ _ _ _ _ _ h => h) <| LastsL.cons (fun _ _ _ _ _ _ h => h) <| LastsL.cons (fun _ _ _ _ _ _ h => h) <| LastsL.cons (fun _ _ _ _ _ _ h => h) <| LastsL.cons (fun _ _ _ _ _ _ h => h) <| LastsL.cons (fun _ _ _ _ _ _ h => h) <| LastsL.cons (fun _ _ _ _ _ _ h => h) <| LastsL.cons (fun _ _ _ _ _ _ h => h) <| LastsL.nil
        · refine StepsB.cons ?_ <| StepsB.cons ?_ <| StepsB.cons ?_ <| StepsB.cons ?_ <| StepsB.cons ?_ <| StepsB.cons ?_ <| StepsB.cons ?_ <| StepsB.cons ?_ <| StepsB.nil
          · intro ρ w a hw hG hf hd K hK
            exact d_val (R := fun ρ w v => va0 = v) hw (wn rfl) (r_move hf rfl) rfl rfl hK
          · intro ρ w a hw hG hf hd K hK
            exact d_val (R := fun ρ w v => .int .i64 s3 = v) hw (wn rfl) (r_move hf rfl) rfl rfl hK
          · intro ρ w a hw hG hf hd K hK
            obtain ⟨_, ht, rfl⟩ := hd 0 (by kernel_rfl)
            replace hf := hf.more ht
            obtain ⟨_, ht, rfl⟩ := hd 1 (by kernel_rfl)
            replace hf := hf.more ht
            exact d_val (R := fun ρ w v => .pointer (some (ad6.add (s3.toNat * 27))) = v) hw (wn rfl) (r_idx Try.underlying26 sz78 hf rfl ⟨_, he6⟩ rfl hc5.1 hc5.2) rfl rfl hK
          · intro ρ w a hw hG hf hd K hK
            obtain ⟨_, ht, rfl⟩ := hd 2 (by kernel_rfl)
            replace hf := hf.more ht
            exact d_val (R := fun ρ w v => .agg (cProd.enc (gl zProd a0 s3)).toArray = v) hw (wn rfl) (r_load_agg ty78 hf rfl (hl6.below hw.below) (cProd.len _)) rfl rfl hK
          · intro ρ w a hw hG hf hd K hK
            exact d_val (R := fun ρ w v => va1 = v) hw (wn rfl) (r_move hf rfl) rfl rfl hK
          · intro ρ w a hw hG hf hd K hK
            exact d_val (R := fun ρ w v => .int .i64 s3 = v) hw (wn rfl) (r_move hf rfl) rfl rfl hK
          · intro ρ w a hw hG hf hd K hK
            obtain ⟨_, ht, rfl⟩ := hd 4 (by kernel_rfl)
            replace hf := hf.more ht
            obtain ⟨_, ht, rfl⟩ := hd 5 (by kernel_rfl)
            replace hf := hf.more ht
            exact d_val (R := fun ρ w v => .pointer (some (ad8.add (s3.toNat * 27))) = v) hw (wn rfl) (r_idx Try.underlying26 sz78 hf rfl ⟨_, he8⟩ rfl hc7.1 hc7.2) rfl rfl hK
          · intro ρ w a hw hG hf hd K hK
            obtain ⟨_, ht, rfl⟩ := hd 6 (by kernel_rfl)
            replace hf := hf.more ht
            exact d_val (R := fun ρ w v => .agg (cProd.enc (gl zProd a1 s3)).toArray = v) hw (wn rfl) (r_load_agg ty78 hf rfl (hl8.below hw.below) (cProd.len _)) rfl rfl hK
        · intro ρ w a hw hG hf hd
          replace hf : Fr 27 a [(0, va0), (1, va1), (5, .int .i64 s3)] := hf
          obtain ⟨_, ht, rfl⟩ := hd 3 (by decide)
          replace hf := hf.more ht
          obtain ⟨_, ht, rfl⟩ := hd 7 (by decide)
          replace hf := hf.more ht
          obtain ⟨x9, hx10, hF⟩ := of_bind hF
          refine st_fn 1 hw hf rfl rfl (by decide) (r_fn en126 hf rfl) (laws_eqProduct_ok  hx10) fun a v w ρ hf hw hE hN hΦ => ?_
          obtain rfl := hΦ
          refine st hf rfl rfl (by decide) (r_not hf rfl) fun a hf => ?_
          refine c_nt ?_
          rcases of_ite hF with ⟨hb11, hF⟩ | ⟨hb11, hF⟩
          · refine c_ift hf rfl hb11 ?_
            refine c_seq ?_
            refine c_region ?_
            refine st hf rfl rfl (by decide) (r_assign hf rfl) fun a hf => ?_
            refine c_nt ?_
            refine c_retc ?_
            obtain rfl := Option.some.inj hF
            refine r_block ?_
            refine r_then ?_
            refine Rnd.rets fun ho => ?_
            subst ho
            have hF := hG2
            dsimp only at hF
            obtain rfl := Option.some.inj hF
            refine r_block ?_
            refine r_then ?_
            refine c_ret hf (res_tmp Try.results66 hf rfl) ?_
            exact ⟨_, rfl, hw.below, rfl⟩
          · refine c_iff hf rfl hb11 ?_
            refine c_skip ?_
            refine n_block ?_
            refine n_then ?_
            refine c_region ?_
            refine st hf rfl rfl (by decide) (r_move hf rfl) fun a hf => ?_
            refine st hf rfl rfl (by decide) (r_add hf rfl rfl) fun a hf => ?_
            refine st hf rfl rfl (by decide) (r_assign hf rfl) fun a hf => ?_
            refine c_nil ?_
            obtain rfl := Option.some.inj hF
            exact Rnd.goes ⟨_, hw, hf.sub ⟨rfl, rfl, rfl, trivial⟩⟩
      · refine c_iff hf rfl hb4 ?_
        refine c_exit ?_
        refine x_then ?_
        obtain rfl := Option.some.inj hF
        exact Rnd.stops ⟨_, hw, hf.sub trivial⟩
    · rintro s3 a w hs ⟨ρ, hw, hf⟩
      subst hs
      replace hf : Fr 27 a [] := hf
      have hF := hG2
      dsimp only at hF
      refine x_block ?_
      refine n_then ?_
      refine c_seq ?_
      refine c_region ?_
      refine st hf rfl rfl (by decide) (r_assign hf rfl) fun a hf => ?_
      refine c_nt ?_
      refine c_retc ?_
      obtain rfl := Option.some.inj hF
      refine c_ret hf (res_tmp Try.results66 hf rfl) ?_
      exact ⟨_, rfl, hw.below, rfl⟩
/-! f17 -/
noncomputable def laws_eqScheme (a0 : Sch) (a1 : Sch) : Option Bool :=
  if (decide (a0.p ≠ a1.p)) = true then (some (false)) else (if (decide (a0.n ≠ a1.n)) = true then (some (false)) else (if (decide (a0.m ≠ a1.m)) = true then (some (false)) else (if (decide (a0.k ≠ a1.k)) = true then (some (false)) else ((laws_eqProductS a0.ps a1.ps).bind fun x5 => if (!x5) = true then (some (false)) else (some (true))))))
theorem laws_eqScheme_ok {w0 : World} {a0 : Sch} {a1 : Sch} {va0 : Value} {va1 : Value} (h0 : Ro (kf cProd) w0 va0 a0.ps) (h1 : Ro (kf cProd) w0 va1 a1.ps) {r : Bool} (hF : laws_eqScheme a0 a1 = some r) :
    Calls Try.prog 17 [.agg ([.int .i64 a0.p, .int .i64 a0.n, .int .i64 a0.m, .int .i64 a0.k, va0]).toArray, .agg ([.int .i64 a1.p, .int .i64 a1.n, .int .i64 a1.m, .int .i64 a1.k, va1]).toArray].toArray w0 fun e w => ∃ v, e = .returned v ∧ Below w0.heap.size w0 w ∧ .bool r = v := by
  refine calls_of (k := 31) Try.func17 rfl rfl (Nat.le_of_ble_eq_true rfl) fun a hf => ?_
  replace hf : Fr 31 a [(0, .agg ([.int .i64 a0.p, .int .i64 a0.n, .int .i64 a0.m, .int .i64 a0.k, va0]).toArray), (1, .agg ([.int .i64 a1.p, .int .i64 a1.n, .int .i64 a1.m, .int .i64 a1.k, va1]).toArray)] := hf
  refine c_start fun w ρ hw => ?_
  unfold laws_eqScheme at hF
  refine c_seq ?_
  refine c_region ?_
  refine st_ex hf rfl rfl (by decide) (r_box (cs := [.int .i64 a0.p, .int .i64 a0.n, .int .i64 a0.m, .int .i64 a0.k, va0]) 1 hw hf rfl rfl) fun a v w hf hΦ => ?_
  obtain ⟨g1, ρ, rfl, hw, hE, o1⟩ := hΦ
  refine st_ex hf rfl rfl (by decide) (r_box (cs := [.int .i64 a1.p, .int .i64 a1.n, .int .i64 a1.m, .int .i64 a1.k, va1]) 2 hw hf rfl rfl) fun a v w hf hΦ => ?_
  obtain ⟨g2, ρ, rfl, hw, hE, o2⟩ := hΦ
  replace o1 := o1.ext hE
  refine st hf rfl rfl (by decide) (r_assign hf rfl) fun a hf => ?_
  refine c_nt ?_
  refine c_seq ?_
  refine c_seq ?_
  refine c_region ?_
  refine st hf rfl rfl (by decide) (r_fa fa28_0 hf rfl) fun a hf => ?_
  refine st hf rfl rfl (by decide) (r_load_cell ty2 hf rfl (o1.cl.at_ 0 _ rfl)) fun a hf => ?_
  refine st hf rfl rfl (by decide) (r_fa fa28_0 hf rfl) fun a hf => ?_
  refine st hf rfl rfl (by decide) (r_load_cell ty2 hf rfl (o2.cl.at_ 0 _ rfl)) fun a hf => ?_
  refine st hf rfl rfl (by decide) (r_neq hf rfl rfl) fun a hf => ?_
  refine c_nt ?_
  rcases of_ite hF with ⟨hb1, hF⟩ | ⟨hb1, hF⟩
  · refine c_ift hf rfl hb1 ?_
    refine c_seq ?_
    refine c_region ?_
    refine st hf rfl rfl (by decide) (r_assign hf rfl) fun a hf => ?_
    refine c_nt ?_
    refine c_retc ?_
    obtain rfl := Option.some.inj hF
    refine r_then ?_
    refine c_ret hf (res_tmp Try.results17 hf rfl) ?_
    exact ⟨_, rfl, hw.below, rfl⟩
  · refine c_iff hf rfl hb1 ?_
    refine c_skip ?_
    refine n_then ?_
    refine c_seq ?_
    refine c_seq ?_
    refine c_region ?_
    refine st hf rfl rfl (by decide) (r_fa fa28_1 hf rfl) fun a hf => ?_
    refine st hf rfl rfl (by decide) (r_load_cell ty2 hf rfl (o1.cl.at_ 1 _ rfl)) fun a hf => ?_
    refine st hf rfl rfl (by decide) (r_fa fa28_1 hf rfl) fun a hf => ?_
    refine st hf rfl rfl (by decide) (r_load_cell ty2 hf rfl (o2.cl.at_ 1 _ rfl)) fun a hf => ?_
    refine st hf rfl rfl (by decide) (r_neq hf rfl rfl) fun a hf => ?_
    refine c_nt ?_
    rcases of_ite hF with ⟨hb2, hF⟩ | ⟨hb2, hF⟩
    · refine c_ift hf rfl hb2 ?_
      refine c_seq ?_
      refine c_region ?_
      refine st hf rfl rfl (by decide) (r_assign hf rfl) fun a hf => ?_
      refine c_nt ?_
      refine c_retc ?_
      obtain rfl := Option.some.inj hF
      refine r_then ?_
      refine c_ret hf (res_tmp Try.results17 hf rfl) ?_
      exact ⟨_, rfl, hw.below, rfl⟩
    · refine c_iff hf rfl hb2 ?_
      refine c_skip ?_
      refine n_then ?_
      refine c_seq ?_
      refine c_seq ?_
      refine c_region ?_
      refine st hf rfl rfl (by decide) (r_fa fa28_2 hf rfl) fun a hf => ?_
      refine st hf rfl rfl (by decide) (r_load_cell ty2 hf rfl (o1.cl.at_ 2 _ rfl)) fun a hf => ?_
      refine st hf rfl rfl (by decide) (r_fa fa28_2 hf rfl) fun a hf => ?_
      refine st hf rfl rfl (by decide) (r_load_cell ty2 hf rfl (o2.cl.at_ 2 _ rfl)) fun a hf => ?_
      refine st hf rfl rfl (by decide) (r_neq hf rfl rfl) fun a hf => ?_
      refine c_nt ?_
      rcases of_ite hF with ⟨hb3, hF⟩ | ⟨hb3, hF⟩
      · refine c_ift hf rfl hb3 ?_
        refine c_seq ?_
        refine c_region ?_
        refine st hf rfl rfl (by decide) (r_assign hf rfl) fun a hf => ?_
        refine c_nt ?_
        refine c_retc ?_
        obtain rfl := Option.some.inj hF
        refine r_then ?_
        refine c_ret hf (res_tmp Try.results17 hf rfl) ?_
        exact ⟨_, rfl, hw.below, rfl⟩
      · refine c_iff hf rfl hb3 ?_
        refine c_skip ?_
        refine n_then ?_
        refine c_seq ?_
        refine c_seq ?_
        refine c_region ?_
        refine st hf rfl rfl (by decide) (r_fa fa28_3 hf rfl) fun a hf => ?_
        refine st hf rfl rfl (by decide) (r_load_cell ty2 hf rfl (o1.cl.at_ 3 _ rfl)) fun a hf => ?_
        refine st hf rfl rfl (by decide) (r_fa fa28_3 hf rfl) fun a hf => ?_
        refine st hf rfl rfl (by decide) (r_load_cell ty2 hf rfl (o2.cl.at_ 3 _ rfl)) fun a hf => ?_
        refine st hf rfl rfl (by decide) (r_neq hf rfl rfl) fun a hf => ?_
        refine c_nt ?_
        rcases of_ite hF with ⟨hb4, hF⟩ | ⟨hb4, hF⟩
        · refine c_ift hf rfl hb4 ?_
          refine c_seq ?_
          refine c_region ?_
          refine st hf rfl rfl (by decide) (r_assign hf rfl) fun a hf => ?_
          refine c_nt ?_
          refine c_retc ?_
          obtain rfl := Option.some.inj hF
          refine r_then ?_
          refine c_ret hf (res_tmp Try.results17 hf rfl) ?_
          exact ⟨_, rfl, hw.below, rfl⟩
        · refine c_iff hf rfl hb4 ?_
          refine c_skip ?_
          refine n_then ?_
          refine c_seq ?_
          refine c_seq ?_
          refine c_region ?_
          refine st hf rfl rfl (by decide) (r_fa fa28_4 hf rfl) fun a hf => ?_
          refine st hf rfl rfl (by decide) (r_load_cell ty26 hf rfl (o1.cl.at_ 4 _ rfl)) fun a hf => ?_
          refine st hf rfl rfl (by decide) (r_fa fa28_4 hf rfl) fun a hf => ?_
          refine st hf rfl rfl (by decide) (r_load_cell ty26 hf rfl (o2.cl.at_ 4 _ rfl)) fun a hf => ?_
          obtain ⟨x5, hx6, hF⟩ := of_bind hF
          refine st_fn 3 hw hf rfl rfl (by decide) (r_fn en66 hf rfl) (laws_eqProductS_ok (h0.now hw) (h1.now hw) hx6) fun a v w ρ hf hw hE hN hΦ => ?_
          obtain rfl := hΦ
          replace o1 := o1.ext hE
          replace o2 := o2.ext hE
          refine st hf rfl rfl (by decide) (r_not hf rfl) fun a hf => ?_
          refine c_nt ?_
          rcases of_ite hF with ⟨hb7, hF⟩ | ⟨hb7, hF⟩
          · refine c_ift hf rfl hb7 ?_
            refine c_seq ?_
            refine c_region ?_
            refine st hf rfl rfl (by decide) (r_assign hf rfl) fun a hf => ?_
            refine c_nt ?_
            refine c_retc ?_
            obtain rfl := Option.some.inj hF
            refine r_then ?_
            refine c_ret hf (res_tmp Try.results17 hf rfl) ?_
            exact ⟨_, rfl, hw.below, rfl⟩
          · refine c_iff hf rfl hb7 ?_
            refine c_skip ?_
            refine n_then ?_
            refine c_seq ?_
            refine c_region ?_
            refine st hf rfl rfl (by decide) (r_assign hf rfl) fun a hf => ?_
            refine c_nt ?_
            refine c_retc ?_
            obtain rfl := Option.some.inj hF
            refine c_ret hf (res_tmp Try.results17 hf rfl) ?_
            exact ⟨_, rfl, hw.below, rfl⟩
/-! f67 -/
noncomputable def laws_markProductS_l6 (s3 : Int) (s7 : Int) (s8 : Int) (s9 : List Prod) : Option (LR (Int × Int × (List Prod)) (Int × (List Prod))) :=
  if (decide (s8 < 9)) = true then (if 0 ≤ s3 ∧ s3 < (s9.length : Int) then (if 0 ≤ s8 ∧ s8 < 9 then (some (.next (w64 (s7 + 1), w64 (s8 + 1), (s9.set s3.toNat (vs ((gl zProd s9 s3).1) s8 (u8 s7), (gl zProd s9 s3).2.1, (gl zProd s9 s3).2.2))))) else none) else none) else (some (.stop (s7, s8, s9)))
noncomputable def laws_markProductS_l14 (s3 : Int) (s15 : Int) (s16 : Int) (s17 : List Prod) : Option (LR (Int × Int × (List Prod)) (Int × (List Prod))) :=
  if (decide (s16 < 9)) = true then (if 0 ≤ s3 ∧ s3 < (s17.length : Int) then (if 0 ≤ s16 ∧ s16 < 9 then (some (.next (w64 (s15 + 1), w64 (s16 + 1), (s17.set s3.toNat ((gl zProd s17 s3).1, vs ((gl zProd s17 s3).2.1) s16 (u8 s15), (gl zProd s17 s3).2.2))))) else none) else none) else (some (.stop (s15, s16, s17)))
noncomputable def laws_markProductS_l22 (s3 : Int) (s23 : Int) (s24 : Int) (s25 : List Prod) : Option (LR (Int × Int × (List Prod)) (Int × (List Prod))) :=
  if (decide (s24 < 9)) = true then (if 0 ≤ s3 ∧ s3 < (s25.length : Int) then (if 0 ≤ s24 ∧ s24 < 9 then (some (.next (w64 (s23 + 1), w64 (s24 + 1), (s25.set s3.toNat ((gl zProd s25 s3).1, (gl zProd s25 s3).2.1, vs ((gl zProd s25 s3).2.2) s24 (u8 s23)))))) else none) else none) else (some (.stop (s23, s24, s25)))
noncomputable def laws_markProductS_l1  (s2 : Int) (s3 : Int) (s4 : List Prod) : Option (LR (Int × Int × (List Prod)) (Int × (List Prod))) :=
  if (decide (s3 < (s4.length : Int))) = true then ((iter (fun s => laws_markProductS_l6 s3 s.1 s.2.1 s.2.2) (s2, 0, s4)).bind fun o => match o with | .stop (s7, s8, s9) => ((iter (fun s => laws_markProductS_l14 s3 s.1 s.2.1 s.2.2) (s7, 0, s9)).bind fun o => match o with | .stop (s15, s16, s17) => ((iter (fun s => laws_markProductS_l22 s3 s.1 s.2.1 s.2.2) (s15, 0, s17)).bind fun o => match o with | .stop (s23, s24, s25) => (some (.next (s23, w64 (s3 + 1), s25))) | .ret r => some (.ret r) | .next _ => none) | .ret r => some (.ret r) | .next _ => none) | .ret r => some (.ret r) | .next _ => none) else (some (.stop (s2, s3, s4)))
noncomputable def laws_markProductS (a0 : List Prod) (a1 : Int) : Option (Int × (List Prod)) :=
  (iter (fun s => laws_markProductS_l1  s.1 s.2.1 s.2.2) (a1, 0, a0)).bind fun o => match o with | .stop (s2, s3, s4) => (some ((s2, s4))) | .ret r => some r | .next _ => none
theorem laws_markProductS_ok {w0 ws : World} {ρ0 : Nat → Nat} {i : Nat} (hi : i ≠ 0) (hW : Wd w0 ρ0 ws) {a0 : List Prod} {a1 : Int} {va0 : Value} (h0 : Ow (kf cProd) 78 ρ0 ws w0.heap.size i va0 a0) {r : Int × (List Prod)} (hF : laws_markProductS a0 a1 = some r) :
    Calls Try.prog 67 [va0, .int .i64 a1].toArray ws fun e w => ∃ v, e = .returned v ∧ ∃ ρ', Wd w0 ρ' w ∧ Adv i ρ0 ws ρ' w ∧ .int .i64 r.1 = v ∧ Ow (kf cProd) 78 ρ' w w0.heap.size i va0 r.2 := by
  refine calls_of (k := 58) Try.func67 rfl rfl (Nat.le_of_ble_eq_true rfl) fun a hf => ?_
  replace hf : Fr 58 a [(0, va0), (1, .int .i64 a1)] := hf
  refine c_startm hi hW h0 fun w ρ hw oA o1 => ?_
  unfold laws_markProductS at hF
  refine c_seq ?_
  refine c_region ?_
  refine st hf rfl rfl (by decide) (r_assign hf rfl) fun a hf => ?_
  refine c_nt ?_
  refine c_seq ?_
  refine c_seq ?_
  refine c_region ?_
  refine st hf rfl rfl (by decide) (r_assign hf rfl) fun a hf => ?_
  refine c_nt ?_
  obtain ⟨ol1, ho1, hG1⟩ := of_bind hF
  clear hF
  refine c_block (c_loop (id := 0) (fun s => laws_markProductS_l1  s.1 s.2.1 s.2.2) (fun (s : Int × Int × (List Prod)) a w => ∃ ρ, Wd w0 ρ w ∧ Fr 58 a [(0, va0), (1, .int .i64 s.1), (5, .int .i64 s.2.1)] ∧ Old (oneOf ρ0 i) ws ρ w ∧ Ow (kf cProd) 78 ρ w w0.heap.size 1 va0 s.2.2) (fun (s : Int × Int × (List Prod)) a w => ∃ ρ, Wd w0 ρ w ∧ Fr 58 a [(1, .int .i64 s.1)] ∧ Old (oneOf ρ0 i) ws ρ w ∧ Ow (kf cProd) 78 ρ w w0.heap.size 1 va0 s.2.2) ho1 ⟨_, hw, hf.sub ⟨rfl, rfl, rfl, trivial⟩, oA, o1⟩ ?_ ?_)
  · rintro ⟨s2, s3, s4⟩ lr a w ⟨ρ, hw, hf, oA, o1⟩ hF
    replace hf : Fr 58 a [(0, va0), (1, .int .i64 s2), (5, .int .i64 s3)] := hf
    replace oA : Old (oneOf ρ0 i) ws ρ w := oA
    replace o1 : Ow (kf cProd) 78 ρ w w0.heap.size 1 va0 s4 := o1
    replace hF : laws_markProductS_l1  s2 s3 s4 = some lr := hF
    unfold laws_markProductS_l1 at hF
    refine c_seq ?_
    refine c_seq ?_
    refine c_region ?_
    refine st hf rfl rfl (by decide) (r_move hf rfl) fun a hf => ?_
    refine st hf rfl rfl (by decide) (r_move hf rfl) fun a hf => ?_
    refine st hf rfl rfl (by decide) (r_len Try.underlying26 o1.ro hf rfl) fun a hf => ?_
    refine st hf rfl rfl (by decide) (r_lss hf rfl rfl) fun a hf => ?_
    refine c_nt ?_
    rcases of_ite hF with ⟨hb5, hF⟩ | ⟨hb5, hF⟩
    · refine c_ift hf rfl hb5 ?_
      refine c_skip ?_
      refine n_then ?_
      refine c_seq ?_
      refine c_block ?_
      refine c_seq ?_
      refine c_seq ?_
      refine c_region ?_
      refine st hf rfl rfl (by decide) (r_assign hf rfl) fun a hf => ?_
      refine c_nt ?_
      obtain ⟨ol6, ho6, hG6⟩ := of_bind hF
      clear hF
      refine c_block (c_loop (id := 2) (fun s => laws_markProductS_l6 s3 s.1 s.2.1 s.2.2) (fun (s : Int × Int × (List Prod)) a w => ∃ ρ, Wd w0 ρ w ∧ Fr 58 a [(0, va0), (1, .int .i64 s.1), (5, .int .i64 s3), (6, .int .i64 s.2.1)] ∧ Old (oneOf ρ0 i) ws ρ w ∧ Ow (kf cProd) 78 ρ w w0.heap.size 1 va0 s.2.2) (fun (s : Int × Int × (List Prod)) a w => ∃ ρ, Wd w0 ρ w ∧ Fr 58 a [(0, va0), (1, .int .i64 s.1), (5, .int .i64 s3)] ∧ Old (oneOf ρ0 i) ws ρ w ∧ Ow (kf cProd) 78 ρ w w0.heap.size 1 va0 s.2.2) ho6 ⟨_, hw, hf.sub ⟨rfl, rfl, rfl, rfl, trivial⟩, oA, o1⟩ ?_ ?_)
      · rintro ⟨s7, s8, s9⟩ lr a w ⟨ρ, hw, hf, oA, o1⟩ hF
        replace hf : Fr 58 a [(0, va0), (1, .int .i64 s7), (5, .int .i64 s3), (6, .int .i64 s8)] := hf
        replace oA : Old (oneOf ρ0 i) ws ρ w := oA
        replace o1 : Ow (kf cProd) 78 ρ w w0.heap.size 1 va0 s9 := o1
        replace hF : laws_markProductS_l6 s3 s7 s8 s9 = some lr := hF
        unfold laws_markProductS_l6 at hF
        refine c_seq ?_
        refine c_seq ?_
        refine c_region ?_
        refine st hf rfl rfl (by decide) (r_move hf rfl) fun a hf => ?_
        refine st hf rfl rfl (by decide) (r_lss hf rfl rfl) fun a hf => ?_
        refine c_nt ?_
        rcases of_ite hF with ⟨hb10, hF⟩ | ⟨hb10, hF⟩
        · refine c_ift hf rfl hb10 ?_
          refine c_skip ?_
          refine n_then ?_
          refine c_seq ?_
          refine c_block ?_
          refine c_seq ?_
          refine c_region ?_
          refine st hf rfl rfl (by decide) (r_move hf rfl) fun a hf => ?_
          refine st hf rfl rfl (by decide) (r_move hf rfl) fun a hf => ?_
          refine st hf rfl rfl (by decide) (r_move hf rfl) fun a hf => ?_
          refine st hf rfl rfl (by decide) (r_move hf rfl) fun a hf => ?_
          refine st hf rfl rfl (by decide) (r_conv_i64_u8 Try.underlying3 Try.underlying5 hf rfl) fun a hf => ?_
          obtain ⟨hc11, hF⟩ := of_guard hF
          obtain ⟨ad12, hl12⟩ := Ow.ce (d := cProd) o1 zProd hc11.1 hc11.2
          refine st hf rfl rfl (by decide) (r_idx Try.underlying26 sz78 hf rfl hl12.at_ rfl hc11.1 hc11.2) fun a hf => ?_
          refine st hf rfl rfl (by decide) (r_fa fa78_0 hf rfl) fun a hf => ?_
          obtain ⟨hc13, hF⟩ := of_guard hF
          refine st hf rfl rfl (by decide) (r_indexAddr_arr Try.underlying39 sz5 hf rfl rfl hc13.1 hc13.2) fun a hf => ?_
          refine st_skip hf rfl rfl (r_store_ec (b := u8 s7) zProd hw (by decide) o1 hc11.1 hc11.2 (Lens.comp lProd_0 (Lens.vec 0 fU8 s8 hc13.1 hc13.2)) hl12.at_ ty5 (by first | rfl | exact Nat.add_assoc _ _ _ | (simp only [Nat.add_assoc]; rfl)) hf rfl rfl rfl) fun a w hf hΦ => ?_
          obtain ⟨hw, hA, o1⟩ := hΦ
          replace oA := oA.adv hA (by decide)
          refine c_nt ?_
          refine c_region ?_
          refine st hf rfl rfl (by decide) (r_move hf rfl) fun a hf => ?_
          refine st hf rfl rfl (by decide) (r_add hf rfl rfl) fun a hf => ?_
          refine st hf rfl rfl (by decide) (r_assign hf rfl) fun a hf => ?_
          refine c_nil ?_
          refine n_block ?_
          refine n_then ?_
          refine c_region ?_
          refine st hf rfl rfl (by decide) (r_move hf rfl) fun a hf => ?_
          refine st hf rfl rfl (by decide) (r_add hf rfl rfl) fun a hf => ?_
          refine st hf rfl rfl (by decide) (r_assign hf rfl) fun a hf => ?_
          refine c_nil ?_
          obtain rfl := Option.some.inj hF
          exact Rnd.goes ⟨_, hw, hf.sub ⟨rfl, rfl, rfl, rfl, trivial⟩, oA, o1⟩
        · refine c_iff hf rfl hb10 ?_
          refine c_exit ?_
          refine x_then ?_
          obtain rfl := Option.some.inj hF
          exact Rnd.stops ⟨_, hw, hf.sub ⟨rfl, rfl, rfl, trivial⟩, oA, o1⟩
      · rintro ⟨s7, s8, s9⟩ a w hs ⟨ρ, hw, hf, oA, o1⟩
        subst hs
        replace hf : Fr 58 a [(0, va0), (1, .int .i64 s7), (5, .int .i64 s3)] := hf
        replace oA : Old (oneOf ρ0 i) ws ρ w := oA
        replace o1 : Ow (kf cProd) 78 ρ w w0.heap.size 1 va0 s9 := o1
        have hF := hG6
        dsimp only at hF
        refine x_block ?_
        refine n_then ?_
        refine c_seq ?_
        refine c_seq ?_
        refine c_region ?_
        refine st hf rfl rfl (by decide) (r_assign hf rfl) fun a hf => ?_
        refine c_nt ?_
        obtain ⟨ol14, ho14, hG14⟩ := of_bind hF
        clear hF
        refine c_block (c_loop (id := 4) (fun s => laws_markProductS_l14 s3 s.1 s.2.1 s.2.2) (fun (s : Int × Int × (List Prod)) a w => ∃ ρ, Wd w0 ρ w ∧ Fr 58 a [(0, va0), (1, .int .i64 s.1), (5, .int .i64 s3), (7, .int .i64 s.2.1)] ∧ Old (oneOf ρ0 i) ws ρ w ∧ Ow (kf cProd) 78 ρ w w0.heap.size 1 va0 s.2.2) (fun (s : Int × Int × (List Prod)) a w => ∃ ρ, Wd w0 ρ w ∧ Fr 58 a [(0, va0), (1, .int .i64 s.1), (5, .int .i64 s3)] ∧ Old (oneOf ρ0 i) ws ρ w ∧ Ow (kf cProd) 78 ρ w w0.heap.size 1 va0 s.2.2) ho14 ⟨_, hw, hf.sub ⟨rfl, rfl, rfl, rfl, trivial⟩, oA, o1⟩ ?_ ?_)
        · rintro ⟨s15, s16, s17⟩ lr a w ⟨ρ, hw, hf, oA, o1⟩ hF
          replace hf : Fr 58 a [(0, va0), (1, .int .i64 s15), (5, .int .i64 s3), (7, .int .i64 s16)] := hf
          replace oA : Old (oneOf ρ0 i) ws ρ w := oA
          replace o1 : Ow (kf cProd) 78 ρ w w0.heap.size 1 va0 s17 := o1
          replace hF : laws_markProductS_l14 s3 s15 s16 s17 = some lr := hF
          unfold laws_markProductS_l14 at hF
          refine c_seq ?_
          refine c_seq ?_
          refine c_region ?_
          refine st hf rfl rfl (by decide) (r_move hf rfl) fun a hf => ?_
          refine st hf rfl rfl (by decide) (r_lss hf rfl rfl) fun a hf => ?_
          refine c_nt ?_
          rcases of_ite hF with ⟨hb18, hF⟩ | ⟨hb18, hF⟩
          · refine c_ift hf rfl hb18 ?_
            refine c_skip ?_
            refine n_then ?_
            refine c_seq ?_
            refine c_block ?_
            refine c_seq ?_
            refine c_region ?_
            refine st hf rfl rfl (by decide) (r_move hf rfl) fun a hf => ?_
            refine st hf rfl rfl (by decide) (r_move hf rfl) fun a hf => ?_
            refine st hf rfl rfl (by decide) (r_move hf rfl) fun a hf => ?_
            refine st hf rfl rfl (by decide) (r_move hf rfl) fun a hf => ?_
            refine st hf rfl rfl (by decide) (r_conv_i64_u8 Try.underlying3 Try.underlying5 hf rfl) fun a hf => ?_
            obtain ⟨hc19, hF⟩ := of_guard hF
            obtain ⟨ad20, hl20⟩ := Ow.ce (d := cProd) o1 zProd hc19.1 hc19.2
            refine st hf rfl rfl (by decide) (r_idx Try.underlying26 sz78 hf rfl hl20.at_ rfl hc19.1 hc19.2) fun a hf => ?_
            refine st hf rfl rfl (by decide) (r_fa fa78_1 hf rfl) fun a hf => ?_
            obtain ⟨hc21, hF⟩ := of_guard hF
            refine st hf rfl rfl (by decide) (r_indexAddr_arr Try.underlying39 sz5 hf rfl rfl hc21.1 hc21.2) fun a hf => ?_
            refine st_skip hf rfl rfl (r_store_ec (b := u8 s15) zProd hw (by decide) o1 hc19.1 hc19.2 (Lens.comp lProd_1 (Lens.vec 0 fU8 s16 hc21.1 hc21.2)) hl20.at_ ty5 (by first | rfl | exact Nat.add_assoc _ _ _ | (simp only [Nat.add_assoc]; rfl)) hf rfl rfl rfl) fun a w hf hΦ => ?_
            obtain ⟨hw, hA, o1⟩ := hΦ
            replace oA := oA.adv hA (by decide)
            refine c_nt ?_
            refine c_region ?_
            refine st hf rfl rfl (by decide) (r_move hf rfl) fun a hf => ?_
            refine st hf rfl rfl (by decide) (r_add hf rfl rfl) fun a hf => ?_
            refine st hf rfl rfl (by decide) (r_assign hf rfl) fun a hf => ?_
            refine c_nil ?_
            refine n_block ?_
            refine n_then ?_
            refine c_region ?_
            refine st hf rfl rfl (by decide) (r_move hf rfl) fun a hf => ?_
            refine st hf rfl rfl (by decide) (r_add hf rfl rfl) fun a hf => ?_
            refine st hf rfl rfl (by decide) (r_assign hf rfl) fun a hf => ?_
            refine c_nil ?_
            obtain rfl := Option.some.inj hF
            exact Rnd.goes ⟨_, hw, hf.sub ⟨rfl, rfl, rfl, rfl, trivial⟩, oA, o1⟩
          · refine c_iff hf rfl hb18 ?_
            refine c_exit ?_
            refine x_then ?_
            obtain rfl := Option.some.inj hF
            exact Rnd.stops ⟨_, hw, hf.sub ⟨rfl, rfl, rfl, trivial⟩, oA, o1⟩
        · rintro ⟨s15, s16, s17⟩ a w hs ⟨ρ, hw, hf, oA, o1⟩
          subst hs
          replace hf : Fr 58 a [(0, va0), (1, .int .i64 s15), (5, .int .i64 s3)] := hf
          replace oA : Old (oneOf ρ0 i) ws ρ w := oA
          replace o1 : Ow (kf cProd) 78 ρ w w0.heap.size 1 va0 s17 := o1
          have hF := hG14
          dsimp only at hF
          refine x_block ?_
          refine n_then ?_
          refine c_seq ?_
          refine c_region ?_
          refine st hf rfl rfl (by decide) (r_assign hf rfl) fun a hf => ?_
          refine c_nt ?_
          obtain ⟨ol22, ho22, hG22⟩ := of_bind hF
          clear hF
          refine c_block (c_loop (id := 6) (fun s => laws_markProductS_l22 s3 s.1 s.2.1 s.2.2) (fun (s : Int × Int × (List Prod)) a w => ∃ ρ, Wd w0 ρ w ∧ Fr 58 a [(0, va0), (1, .int .i64 s.1), (5, .int .i64 s3), (8, .int .i64 s.2.1)] ∧ Old (oneOf ρ0 i) ws ρ w ∧ Ow (kf cProd) 78 ρ w w0.heap.size 1 va0 s.2.2) (fun (s : Int × Int × (List Prod)) a w => ∃ ρ, Wd w0 ρ w ∧ Fr 58 a [(0, va0), (1, .int .i64 s.1), (5, .int .i64 s3)] ∧ Old (oneOf ρ0 i) ws ρ w ∧ Ow (kf cProd) 78 ρ w w0.heap.size 1 va0 s.2.2) ho22 ⟨_, hw, hf.sub ⟨rfl, rfl, rfl, rfl, trivial⟩, oA, o1⟩ ?_ ?_)
          · rintro ⟨s23, s24, s25⟩ lr a w ⟨ρ, hw, hf, oA, o1⟩ hF
            replace hf : Fr 58 a [(0, va0), (1, .int .i64 s23), (5, .int .i64 s3), (8, .int .i64 s24)] := hf
            replace oA : Old (oneOf ρ0 i) ws ρ w := oA
            replace o1 : Ow (kf cProd) 78 ρ w w0.heap.size 1 va0 s25 := o1
            replace hF : laws_markProductS_l22 s3 s23 s24 s25 = some lr := hF
            unfold laws_markProductS_l22 at hF
            refine c_seq ?_
            refine c_seq ?_
            refine c_region ?_
            refine st hf rfl rfl (by decide) (r_move hf rfl) fun a hf => ?_
            refine st hf rfl rfl (by decide) (r_lss hf rfl rfl) fun a hf => ?_
            refine c_nt ?_
            rcases of_ite hF with ⟨hb26, hF⟩ | ⟨hb26, hF⟩
            · refine c_ift hf rfl hb26 ?_
              refine c_skip ?_
              refine n_then ?_
              refine c_seq ?_
              refine c_block ?_
              refine c_seq ?_
              refine c_region ?_
              refine st hf rfl rfl (by decide) (r_move hf rfl) fun a hf => ?_
              refine st hf rfl rfl (by decide) (r_move hf rfl) fun a hf => ?_
              refine st hf rfl rfl (by decide) (r_move hf rfl) fun a hf => ?_
              refine st hf rfl rfl (by decide) (r_move hf rfl) fun a hf => ?_
              refine st hf rfl rfl (by decide) (r_conv_i64_u8 Try.underlying3 Try.underlying5 hf rfl) fun a hf => ?_
              obtain ⟨hc27, hF⟩ := of_guard hF
              obtain ⟨ad28, hl28⟩ := Ow.ce (d := cProd) o1 zProd hc27.1 hc27.2
              refine st hf rfl rfl (by decide) (r_idx Try.underlying26 sz78 hf rfl hl28.at_ rfl hc27.1 hc27.2) fun a hf => ?_
              refine st hf rfl rfl (by decide) (r_fa fa78_2 hf rfl) fun a hf => ?_
              obtain ⟨hc29, hF⟩ := of_guard hF
              refine st hf rfl rfl (by decide) (r_indexAddr_arr Try.underlying39 sz5 hf rfl rfl hc29.1 hc29.2) fun a hf => ?_
              refine st_skip hf rfl rfl (r_store_ec (b := u8 s23) zProd hw (by decide) o1 hc27.1 hc27.2 (Lens.comp lProd_2 (Lens.vec 0 fU8 s24 hc29.1 hc29.2)) hl28.at_ ty5 (by first | rfl | exact Nat.add_assoc _ _ _ | (simp only [Nat.add_assoc]; rfl)) hf rfl rfl rfl) fun a w hf hΦ => ?_
              obtain ⟨hw, hA, o1⟩ := hΦ
              replace oA := oA.adv hA (by decide)
              refine c_nt ?_
              refine c_region ?_
              refine st hf rfl rfl (by decide) (r_move hf rfl) fun a hf => ?_
              refine st hf rfl rfl (by decide) (r_add hf rfl rfl) fun a hf => ?_
              refine st hf rfl rfl (by decide) (r_assign hf rfl) fun a hf => ?_
              refine c_nil ?_
              refine n_block ?_
              refine n_then ?_
              refine c_region ?_
              refine st hf rfl rfl (by decide) (r_move hf rfl) fun a hf => ?_
              refine st hf rfl rfl (by decide) (r_add hf rfl rfl) fun a hf => ?_
              refine st hf rfl rfl (by decide) (r_assign hf rfl) fun a hf => ?_
              refine c_nil ?_
              obtain rfl := Option.some.inj hF
              exact Rnd.goes ⟨_, hw, hf.sub ⟨rfl, rfl, rfl, rfl, trivial⟩, oA, o1⟩
            · refine c_iff hf rfl hb26 ?_
              refine c_exit ?_
              refine x_then ?_
              obtain rfl := Option.some.inj hF
              exact Rnd.stops ⟨_, hw, hf.sub ⟨rfl, rfl, rfl, trivial⟩, oA, o1⟩
          · rintro ⟨s23, s24, s25⟩ a w hs ⟨ρ, hw, hf, oA, o1⟩
            subst hs
            replace hf : Fr 58 a [(0, va0), (1, .int .i64 s23), (5, .int .i64 s3)] := hf
            replace oA : Old (oneOf ρ0 i) ws ρ w := oA
            replace o1 : Ow (kf cProd) 78 ρ w w0.heap.size 1 va0 s25 := o1
            have hF := hG22
            dsimp only at hF
            refine x_block ?_
            refine n_block ?_
            refine n_then ?_
            refine c_region ?_
            refine st hf rfl rfl (by decide) (r_move hf rfl) fun a hf => ?_
            refine st hf rfl rfl (by decide) (r_add hf rfl rfl) fun a hf => ?_
            refine st hf rfl rfl (by decide) (r_assign hf rfl) fun a hf => ?_
            refine c_nil ?_
            obtain rfl := Option.some.inj hF
            exact Rnd.goes ⟨_, hw, hf.sub ⟨rfl, rfl, rfl, trivial⟩, oA, o1⟩
    · refine c_iff hf rfl hb5 ?_
      refine c_exit ?_
      refine x_then ?_
      obtain rfl := Option.some.inj hF
      exact Rnd.stops ⟨_, hw, hf.sub ⟨rfl, trivial⟩, oA, o1⟩
  · rintro ⟨s2, s3, s4⟩ a w hs ⟨ρ, hw, hf, oA, o1⟩
    subst hs
    replace hf : Fr 58 a [(1, .int .i64 s2)] := hf
    replace oA : Old (oneOf ρ0 i) ws ρ w := oA
    replace o1 : Ow (kf cProd) 78 ρ w w0.heap.size 1 va0 s4 := o1
    have hF := hG1
    dsimp only at hF
    refine x_block ?_
    refine n_then ?_
    refine c_seq ?_
    refine c_region ?_
    refine st hf rfl rfl (by decide) (r_move hf rfl) fun a hf => ?_
    refine st hf rfl rfl (by decide) (r_assign hf rfl) fun a hf => ?_
    refine c_nt ?_
    refine c_retc ?_
    obtain rfl := Option.some.inj hF
    refine c_ret hf (res_tmp Try.results67 hf rfl) ?_
    exact ⟨_, rfl, _, m_wd hW hw oA, m_adv oA, rfl, m_ow oA o1⟩
/-! f18 -/
noncomputable def laws_markScheme (a0 : Sch) (a1 : Int) : Option (Int × (List Prod)) :=
  (laws_markProductS a0.ps a1).bind fun x1 => some ((x1.1, x1.2))
theorem laws_markScheme_ok {w0 ws : World} {ρ0 : Nat → Nat} {i : Nat} (hi : i ≠ 0) (hW : Wd w0 ρ0 ws) {a0 : Sch} {a1 : Int} {va0 : Value} (h0 : Ow (kf cProd) 78 ρ0 ws w0.heap.size i va0 a0.ps) {r : Int × (List Prod)} (hF : laws_markScheme a0 a1 = some r) :
    Calls Try.prog 18 [.agg ([.int .i64 a0.p, .int .i64 a0.n, .int .i64 a0.m, .int .i64 a0.k, va0]).toArray, .int .i64 a1].toArray ws fun e w => ∃ v, e = .returned v ∧ ∃ ρ', Wd w0 ρ' w ∧ Adv i ρ0 ws ρ' w ∧ .int .i64 r.1 = v ∧ Ow (kf cProd) 78 ρ' w w0.heap.size i va0 r.2 := by
  refine calls_of (k := 10) Try.func18 rfl rfl (Nat.le_of_ble_eq_true rfl) fun a hf => ?_
  replace hf : Fr 10 a [(0, .agg ([.int .i64 a0.p, .int .i64 a0.n, .int .i64 a0.m, .int .i64 a0.k, va0]).toArray), (1, .int .i64 a1)] := hf
  refine c_startm hi hW h0 fun w ρ hw oA o1 => ?_
  unfold laws_markScheme at hF
  refine c_seq ?_
  refine c_region ?_
  refine st_ex hf rfl rfl (by decide) (r_box (cs := [.int .i64 a0.p, .int .i64 a0.n, .int .i64 a0.m, .int .i64 a0.k, va0]) 2 hw hf rfl rfl) fun a v w hf hΦ => ?_
  obtain ⟨g2, ρ, rfl, hw, hE, o2⟩ := hΦ
  replace oA := oA.ext hE
  replace o1 := o1.ext hE
  refine st hf rfl rfl (by decide) (r_assign hf rfl) fun a hf => ?_
  refine c_nt ?_
  refine c_seq ?_
  refine c_region ?_
  refine st hf rfl rfl (by decide) (r_fa fa28_4 hf rfl) fun a hf => ?_
  refine st hf rfl rfl (by decide) (r_load_cell ty26 hf rfl (o2.cl.at_ 4 _ rfl)) fun a hf => ?_
  refine st hf rfl rfl (by decide) (r_move hf rfl) fun a hf => ?_
  obtain ⟨x1, hx2, hF⟩ := of_bind hF
  refine st_mfn hf rfl rfl (by decide) (r_fn en67 hf rfl) (laws_markProductS_ok (by decide) hw o1 hx2) fun a v w ρ hf hw hA hΦ => ?_
  obtain ⟨rfl, o1⟩ := hΦ
  replace oA := oA.adv hA (by decide)
  replace o2 := o2.adv hA (by decide)
  refine st hf rfl rfl (by decide) (r_assign hf rfl) fun a hf => ?_
  refine c_nt ?_
  refine c_seq ?_
  refine c_region ?_
  refine st hf rfl rfl (by decide) (r_move hf rfl) fun a hf => ?_
  refine st hf rfl rfl (by decide) (r_assign hf rfl) fun a hf => ?_
  refine c_nt ?_
  refine c_retc ?_
  obtain rfl := Option.some.inj hF
  refine c_ret hf (res_tmp Try.results18 hf rfl) ?_
  exact ⟨_, rfl, _, m_wd hW hw oA, m_adv oA, rfl, m_ow oA o1⟩
/-! f68 -/
noncomputable def laws_heldProductS_l5 (a0 : List Prod) (s3 : Int) (s6 : Int) (s7 : Int) : Option (LR (Int × Int) Int) :=
  if (decide (s7 < 9)) = true then (if 0 ≤ s3 ∧ s3 < (a0.length : Int) then (if 0 ≤ s7 ∧ s7 < 9 then (if (decide (((vg 0 ((gl zProd a0 s3).1) s7).toNat : Int) ≠ ((u8 s6).toNat : Int))) = true then (some (.ret (-1))) else (some (.next (w64 (s6 + 1), w64 (s7 + 1))))) else none) else none) else (some (.stop (s6, s7)))
noncomputable def laws_heldProductS_l13 (a0 : List Prod) (s3 : Int) (s14 : Int) (s15 : Int) : Option (LR (Int × Int) Int) :=
  if (decide (s15 < 9)) = true then (if 0 ≤ s3 ∧ s3 < (a0.length : Int) then (if 0 ≤ s15 ∧ s15 < 9 then (if (decide (((vg 0 ((gl zProd a0 s3).2.1) s15).toNat : Int) ≠ ((u8 s14).toNat : Int))) = true then (some (.ret (-1))) else (some (.next (w64 (s14 + 1), w64 (s15 + 1))))) else none) else none) else (some (.stop (s14, s15)))
noncomputable def laws_heldProductS_l21 (a0 : List Prod) (s3 : Int) (s22 : Int) (s23 : Int) : Option (LR (Int × Int) Int) :=
  if (decide (s23 < 9)) = true then (if 0 ≤ s3 ∧ s3 < (a0.length : Int) then (if 0 ≤ s23 ∧ s23 < 9 then (if (decide (((vg 0 ((gl zProd a0 s3).2.2) s23).toNat : Int) ≠ ((u8 s22).toNat : Int))) = true then (some (.ret (-1))) else (some (.next (w64 (s22 + 1), w64 (s23 + 1))))) else none) else none) else (some (.stop (s22, s23)))
noncomputable def laws_heldProductS_l1 (a0 : List Prod) (s2 : Int) (s3 : Int) : Option (LR (Int × Int) Int) :=
  if (decide (s3 < (a0.length : Int))) = true then ((iter (fun s => laws_heldProductS_l5 a0 s3 s.1 s.2) (s2, 0)).bind fun o => match o with | .stop (s6, s7) => ((iter (fun s => laws_heldProductS_l13 a0 s3 s.1 s.2) (s6, 0)).bind fun o => match o with | .stop (s14, s15) => ((iter (fun s => laws_heldProductS_l21 a0 s3 s.1 s.2) (s14, 0)).bind fun o => match o with | .stop (s22, s23) => (some (.next (s22, w64 (s3 + 1)))) | .ret r => some (.ret r) | .next _ => none) | .ret r => some (.ret r) | .next _ => none) | .ret r => some (.ret r) | .next _ => none) else (some (.stop (s2, s3)))
noncomputable def laws_heldProductS (a0 : List Prod) (a1 : Int) : Option Int :=
  (iter (fun s => laws_heldProductS_l1 a0 s.1 s.2) (a1, 0)).bind fun o => match o with | .stop (s2, s3) => (some (s2)) | .ret r => some r | .next _ => none
theorem laws_heldProductS_ok {w0 : World} {a0 : List Prod} {a1 : Int} {va0 : Value} (h0 : Ro (kf cProd) w0 va0 a0) {r : Int} (hF : laws_heldProductS a0 a1 = some r) :
    Calls Try.prog 68 [va0, .int .i64 a1].toArray w0 fun e w => ∃ v, e = .returned v ∧ Below w0.heap.size w0 w ∧ .int .i64 r = v := by
  refine calls_of (k := 64) Try.func68 rfl rfl (Nat.le_of_ble_eq_true rfl) fun a hf => ?_
  replace hf : Fr 64 a [(0, va0), (1, .int .i64 a1)] := hf
  refine c_start fun w ρ hw => ?_
  unfold laws_heldProductS at hF
  refine c_seq ?_
  refine c_region ?_
  refine st hf rfl rfl (by decide) (r_assign hf rfl) fun a hf => ?_
  refine c_nt ?_
  refine c_seq ?_
  refine c_seq ?_
  refine c_region ?_
  refine st hf rfl rfl (by decide) (r_assign hf rfl) fun a hf => ?_
  refine c_nt ?_
  obtain ⟨ol1, ho1, hG1⟩ := of_bind hF
  clear hF
  refine c_block (c_loop (id := 0) (fun s => laws_heldProductS_l1 a0 s.1 s.2) (fun (s : Int × Int) a w => ∃ ρ, Wd w0 ρ w ∧ Fr 64 a [(0, va0), (1, .int .i64 s.1), (5, .int .i64 s.2)]) (fun (s : Int × Int) a w => ∃ ρ, Wd w0 ρ w ∧ Fr 64 a [(1, .int .i64 s.1)]) ho1 ⟨_, hw, hf.sub ⟨rfl, rfl, rfl, trivial⟩⟩ ?_ ?_)
  · rintro ⟨s2, s3⟩ lr a w ⟨ρ, hw, hf⟩ hF
    replace hf : Fr 64 a [(0, va0), (1, .int .i64 s2), (5, .int .i64 s3)] := hf
    replace hF : laws_heldProductS_l1 a0 s2 s3 = some lr := hF
    unfold laws_heldProductS_l1 at hF
    refine c_seq ?_
    refine c_seq ?_
    refine c_region ?_
    refine st hf rfl rfl (by decide) (r_move hf rfl) fun a hf => ?_
    refine st hf rfl rfl (by decide) (r_move hf rfl) fun a hf => ?_
    refine st hf rfl rfl (by decide) (r_len Try.underlying26 (h0.now hw) hf rfl) fun a hf => ?_
    refine st hf rfl rfl (by decide) (r_lss hf rfl rfl) fun a hf => ?_
    refine c_nt ?_
    rcases of_ite hF with ⟨hb4, hF⟩ | ⟨hb4, hF⟩
    · refine c_ift hf rfl hb4 ?_
      refine c_skip ?_
      refine n_then ?_
      refine c_seq ?_
      refine c_block ?_
      refine c_seq ?_
      refine c_seq ?_
      refine c_region ?_
      refine st hf rfl rfl (by decide) (r_assign hf rfl) fun a hf => ?_
      refine c_nt ?_
      obtain ⟨ol5, ho5, hG5⟩ := of_bind hF
      clear hF
      refine c_block (c_loop (id := 2) (fun s => laws_heldProductS_l5 a0 s3 s.1 s.2) (fun (s : Int × Int) a w => ∃ ρ, Wd w0 ρ w ∧ Fr 64 a [(0, va0), (1, .int .i64 s.1), (5, .int .i64 s3), (6, .int .i64 s.2)]) (fun (s : Int × Int) a w => ∃ ρ, Wd w0 ρ w ∧ Fr 64 a [(0, va0), (1, .int .i64 s.1), (5, .int .i64 s3)]) ho5 ⟨_, hw, hf.sub ⟨rfl, rfl, rfl, rfl, trivial⟩⟩ ?_ ?_)
      · rintro ⟨s6, s7⟩ lr a w ⟨ρ, hw, hf⟩ hF
        replace hf : Fr 64 a [(0, va0), (1, .int .i64 s6), (5, .int .i64 s3), (6, .int .i64 s7)] := hf
        replace hF : laws_heldProductS_l5 a0 s3 s6 s7 = some lr := hF
        unfold laws_heldProductS_l5 at hF
        refine c_seq ?_
        refine c_seq ?_
        refine c_region ?_
        refine st hf rfl rfl (by decide) (r_move hf rfl) fun a hf => ?_
        refine st hf rfl rfl (by decide) (r_lss hf rfl rfl) fun a hf => ?_
        refine c_nt ?_
        rcases of_ite hF with ⟨hb8, hF⟩ | ⟨hb8, hF⟩
        · refine c_ift hf rfl hb8 ?_
          refine c_skip ?_
          refine n_then ?_
          refine c_seq ?_
          refine c_block ?_
          refine c_seq ?_
          refine c_seq ?_
          refine c_region ?_
          refine st hf rfl rfl (by decide) (r_move hf rfl) fun a hf => ?_
          refine st hf rfl rfl (by decide) (r_move hf rfl) fun a hf => ?_
          refine st hf rfl rfl (by decide) (r_move hf rfl) fun a hf => ?_
          obtain ⟨hc9, hF⟩ := of_guard hF
          obtain ⟨ad10, c10, he10, hl10⟩ := Ro.el cProd h0 zProd hc9.1 hc9.2
          refine st hf rfl rfl (by decide) (r_idx Try.underlying26 sz78 hf rfl ⟨_, he10⟩ rfl hc9.1 hc9.2) fun a hf => ?_
          refine st hf rfl rfl (by decide) (r_fa fa78_0 hf rfl) fun a hf => ?_
          obtain ⟨hc11, hF⟩ := of_guard hF
          refine st hf rfl rfl (by decide) (r_indexAddr_arr Try.underlying39 sz5 hf rfl rfl hc11.1 hc11.2) fun a hf => ?_
          refine st hf rfl rfl (by decide) (r_load_cell ty5 hf rfl (((hl10.below hw.below).lens lProd_0).lens (Lens.vec 0 fU8 s7 hc11.1 hc11.2))) fun a hf => ?_
          refine st hf rfl rfl (by decide) (r_move hf rfl) fun a hf => ?_
          refine st hf rfl rfl (by decide) (r_conv_i64_u8 Try.underlying3 Try.underlying5 hf rfl) fun a hf => ?_
          refine st hf rfl rfl (by decide) (r_neq hf rfl rfl) fun a hf => ?_
          refine c_nt ?_
          rcases of_ite hF with ⟨hb12, hF⟩ | ⟨hb12, hF⟩
          · refine c_ift hf rfl hb12 ?_
            refine c_seq ?_
            refine c_region ?_
            refine st hf rfl rfl (by decide) (r_assign hf rfl) fun a hf => ?_
            refine c_nt ?_
            refine c_retc ?_
            obtain rfl := Option.some.inj hF
            refine r_then ?_
            refine r_block ?_
            refine r_then ?_
            refine Rnd.rets fun ho => ?_
            subst ho
            have hF := hG5
            dsimp only at hF
            obtain rfl := Option.some.inj hF
            refine r_block ?_
            refine r_then ?_
            refine r_block ?_
            refine r_then ?_
            refine Rnd.rets fun ho => ?_
            subst ho
            have hF := hG1
            dsimp only at hF
            obtain rfl := Option.some.inj hF
            refine r_block ?_
            refine r_then ?_
            refine c_ret hf (res_tmp Try.results68 hf rfl) ?_
            exact ⟨_, rfl, hw.below, rfl⟩
          · refine c_iff hf rfl hb12 ?_
            refine c_skip ?_
            refine n_then ?_
            refine c_region ?_
            refine st hf rfl rfl (by decide) (r_move hf rfl) fun a hf => ?_
            refine st hf rfl rfl (by decide) (r_add hf rfl rfl) fun a hf => ?_
            refine st hf rfl rfl (by decide) (r_assign hf rfl) fun a hf => ?_
            refine c_nil ?_
            refine n_block ?_
            refine n_then ?_
            refine c_region ?_
            refine st hf rfl rfl (by decide) (r_move hf rfl) fun a hf => ?_
            refine st hf rfl rfl (by decide) (r_add hf rfl rfl) fun a hf => ?_
            refine st hf rfl rfl (by decide) (r_assign hf rfl) fun a hf => ?_
            refine c_nil ?_
            obtain rfl := Option.some.inj hF
            exact Rnd.goes ⟨_, hw, hf.sub ⟨rfl, rfl, rfl, rfl, trivial⟩⟩
        · refine c_iff hf rfl hb8 ?_
          refine c_exit ?_
          refine x_then ?_
          obtain rfl := Option.some.inj hF
          exact Rnd.stops ⟨_, hw, hf.sub ⟨rfl, rfl, rfl, trivial⟩⟩
      · rintro ⟨s6, s7⟩ a w hs ⟨ρ, hw, hf⟩
        subst hs
        replace hf : Fr 64 a [(0, va0), (1, .int .i64 s6), (5, .int .i64 s3)] := hf
        have hF := hG5
        dsimp only at hF
        refine x_block ?_
        refine n_then ?_
        refine c_seq ?_
        refine c_seq ?_
        refine c_region ?_
        refine st hf rfl rfl (by decide) (r_assign hf rfl) fun a hf => ?_
        refine c_nt ?_
        obtain ⟨ol13, ho13, hG13⟩ := of_bind hF
        clear hF
        refine c_block (c_loop (id := 4) (fun s => laws_heldProductS_l13 a0 s3 s.1 s.2) (fun (s : Int × Int) a w => ∃ ρ, Wd w0 ρ w ∧ Fr 64 a [(0, va0), (1, .int .i64 s.1), (5, .int .i64 s3), (7, .int .i64 s.2)]) (fun (s : Int × Int) a w => ∃ ρ, Wd w0 ρ w ∧ Fr 64 a [(0, va0), (1, .int .i64 s.1), (5, .int .i64 s3)]) ho13 ⟨_, hw, hf.sub ⟨rfl, rfl, rfl, rfl, trivial⟩⟩ ?_ ?_)
        · rintro ⟨s14, s15⟩ lr a w ⟨ρ, hw, hf⟩ hF
          replace hf : Fr 64 a [(0, va0), (1, .int .i64 s14), (5, .int .i64 s3), (7, .int .i64 s15)] := hf
          replace hF : laws_heldProductS_l13 a0 s3 s14 s15 = some lr := hF
          unfold laws_heldProductS_l13 at hF
          refine c_seq ?_
          refine c_seq ?_
          refine c_region ?_
          refine st hf rfl rfl (by decide) (r_move hf rfl) fun a hf => ?_
          refine st hf rfl rfl (by decide) (r_lss hf rfl rfl) fun a hf => ?_
          refine c_nt ?_
          rcases of_ite hF with ⟨hb16, hF⟩ | ⟨hb16, hF⟩
          · refine c_ift hf rfl hb16 ?_
            refine c_skip ?_
            refine n_then ?_
            refine c_seq ?_
            refine c_block ?_
            refine c_seq ?_
            refine c_seq ?_
            refine c_region ?_
            refine st hf rfl rfl (by decide) (r_move hf rfl) fun a hf => ?_
            refine st hf rfl rfl (by decide) (r_move hf rfl) fun a hf => ?_
            refine st hf rfl rfl (by decide) (r_move hf rfl) fun a hf => ?_
            obtain ⟨hc17, hF⟩ := of_guard hF
            obtain ⟨ad18, c18, he18, hl18⟩ := Ro.el cProd h0 zProd hc17.1 hc17.2
            refine st hf rfl rfl (by decide) (r_idx Try.underlying26 sz78 hf rfl ⟨_, he18⟩ rfl hc17.1 hc17.2) fun a hf => ?_
            refine st hf rfl rfl (by decide) (r_fa fa78_1 hf rfl) fun a hf => ?_
            obtain ⟨hc19, hF⟩ := of_guard hF
            refine st hf rfl rfl (by decide) (r_indexAddr_arr Try.underlying39 sz5 hf rfl rfl hc19.1 hc19.2) fun a hf => ?_
            refine st hf rfl rfl (by decide) (r_load_cell ty5 hf rfl (((hl18.below hw.below).lens lProd_1).lens (Lens.vec 0 fU8 s15 hc19.1 hc19.2))) fun a hf => ?_
            refine st hf rfl rfl (by decide) (r_move hf rfl) fun a hf => ?_
            refine st hf rfl rfl (by decide) (r_conv_i64_u8 Try.underlying3 Try.underlying5 hf rfl) fun a hf => ?_
            refine st hf rfl rfl (by decide) (r_neq hf rfl rfl) fun a hf => ?_
            refine c_nt ?_
            rcases of_ite hF with ⟨hb20, hF⟩ | ⟨hb20, hF⟩
            · refine c_ift hf rfl hb20 ?_
              refine c_seq ?_
              refine c_region ?_
              refine st hf rfl rfl (by decide) (r_assign hf rfl) fun a hf => ?_
              refine c_nt ?_
              refine c_retc ?_
              obtain rfl := Option.some.inj hF
              refine r_then ?_
              refine r_block ?_
              refine r_then ?_
              refine Rnd.rets fun ho => ?_
              subst ho
              have hF := hG13
              dsimp only at hF
              obtain rfl := Option.some.inj hF
              refine r_block ?_
              refine r_then ?_
              refine r_block ?_
              refine r_then ?_
              refine Rnd.rets fun ho => ?_
              subst ho
              have hF := hG1
              dsimp only at hF
              obtain rfl := Option.some.inj hF
              refine r_block ?_
              refine r_then ?_
              refine c_ret hf (res_tmp Try.results68 hf rfl) ?_
              exact ⟨_, rfl, hw.below, rfl⟩
            · refine c_iff hf rfl hb20 ?_
              refine c_skip ?_
              refine n_then ?_
              refine c_region ?_
              refine st hf rfl rfl (by decide) (r_move hf rfl) fun a hf => ?_
              refine st hf rfl rfl (by decide) (r_add hf rfl rfl) fun a hf => ?_
              refine st hf rfl rfl (by decide) (r_assign hf rfl) fun a hf => ?_
              refine c_nil ?_
              refine n_block ?_
              refine n_then ?_
              refine c_region ?_
              refine st hf rfl rfl (by decide) (r_move hf rfl) fun a hf => ?_
              refine st hf rfl rfl (by decide) (r_add hf rfl rfl) fun a hf => ?_
              refine st hf rfl rfl (by decide) (r_assign hf rfl) fun a hf => ?_
              refine c_nil ?_
              obtain rfl := Option.some.inj hF
              exact Rnd.goes ⟨_, hw, hf.sub ⟨rfl, rfl, rfl, rfl, trivial⟩⟩
          · refine c_iff hf rfl hb16 ?_
            refine c_exit ?_
            refine x_then ?_
            obtain rfl := Option.some.inj hF
            exact Rnd.stops ⟨_, hw, hf.sub ⟨rfl, rfl, rfl, trivial⟩⟩
        · rintro ⟨s14, s15⟩ a w hs ⟨ρ, hw, hf⟩
          subst hs
          replace hf : Fr 64 a [(0, va0), (1, .int .i64 s14), (5, .int .i64 s3)] := hf
          have hF := hG13
          dsimp only at hF
          refine x_block ?_
          refine n_then ?_
          refine c_seq ?_
          refine c_region ?_
          refine st hf rfl rfl (by decide) (r_assign hf rfl) fun a hf => ?_
          refine c_nt ?_
          obtain ⟨ol21, ho21, hG21⟩ := of_bind hF
          clear hF
          refine c_block (c_loop (id := 6) (fun s => laws_heldProductS_l21 a0 s3 s.1 s.2) (fun (s : Int × Int) a w => ∃ ρ, Wd w0 ρ w ∧ Fr 64 a [(0, va0), (1, .int .i64 s.1), (5, .int .i64 s3), (8, .int .i64 s.2)]) (fun (s : Int × Int) a w => ∃ ρ, Wd w0 ρ w ∧ Fr 64 a [(0, va0), (1, .int .i64 s.1), (5, .int .i64 s3)]) ho21 ⟨_, hw, hf.sub ⟨rfl, rfl, rfl, rfl, trivial⟩⟩ ?_ ?_)
          · rintro ⟨s22, s23⟩ lr a w ⟨ρ, hw, hf⟩ hF
            replace hf : Fr 64 a [(0, va0), (1, .int .i64 s22), (5, .int .i64 s3), (8, .int .i64 s23)] := hf
            replace hF : laws_heldProductS_l21 a0 s3 s22 s23 = some lr := hF
            unfold laws_heldProductS_l21 at hF
            refine c_seq ?_
            refine c_seq ?_
            refine c_region ?_
            refine st hf rfl rfl (by decide) (r_move hf rfl) fun a hf => ?_
            refine st hf rfl rfl (by decide) (r_lss hf rfl rfl) fun a hf => ?_
            refine c_nt ?_
            rcases of_ite hF with ⟨hb24, hF⟩ | ⟨hb24, hF⟩
            · refine c_ift hf rfl hb24 ?_
              refine c_skip ?_
              refine n_then ?_
              refine c_seq ?_
              refine c_block ?_
              refine c_seq ?_
              refine c_seq ?_
              refine c_region ?_
              refine st hf rfl rfl (by decide) (r_move hf rfl) fun a hf => ?_
              refine st hf rfl rfl (by decide) (r_move hf rfl) fun a hf => ?_
              refine st hf rfl rfl (by decide) (r_move hf rfl) fun a hf => ?_
              obtain ⟨hc25, hF⟩ := of_guard hF
              obtain ⟨ad26, c26, he26, hl26⟩ := Ro.el cProd h0 zProd hc25.1 hc25.2
              refine st hf rfl rfl (by decide) (r_idx Try.underlying26 sz78 hf rfl ⟨_, he26⟩ rfl hc25.1 hc25.2) fun a hf => ?_
              refine st hf rfl rfl (by decide) (r_fa fa78_2 hf rfl) fun a hf => ?_
              obtain ⟨hc27, hF⟩ := of_guard hF
              refine st hf rfl rfl (by decide) (r_indexAddr_arr Try.underlying39 sz5 hf rfl rfl hc27.1 hc27.2) fun a hf => ?_
              refine st hf rfl rfl (by decide) (r_load_cell ty5 hf rfl (((hl26.below hw.below).lens lProd_2).lens (Lens.vec 0 fU8 s23 hc27.1 hc27.2))) fun a hf => ?_
              refine st hf rfl rfl (by decide) (r_move hf rfl) fun a hf => ?_
              refine st hf rfl rfl (by decide) (r_conv_i64_u8 Try.underlying3 Try.underlying5 hf rfl) fun a hf => ?_
              refine st hf rfl rfl (by decide) (r_neq hf rfl rfl) fun a hf => ?_
              refine c_nt ?_
              rcases of_ite hF with ⟨hb28, hF⟩ | ⟨hb28, hF⟩
              · refine c_ift hf rfl hb28 ?_
                refine c_seq ?_
                refine c_region ?_
                refine st hf rfl rfl (by decide) (r_assign hf rfl) fun a hf => ?_
                refine c_nt ?_
                refine c_retc ?_
                obtain rfl := Option.some.inj hF
                refine r_then ?_
                refine r_block ?_
                refine r_then ?_
                refine Rnd.rets fun ho => ?_
                subst ho
                have hF := hG21
                dsimp only at hF
                obtain rfl := Option.some.inj hF
                refine r_block ?_
                refine r_block ?_
                refine r_then ?_
                refine Rnd.rets fun ho => ?_
                subst ho
                have hF := hG1
                dsimp only at hF
                obtain rfl := Option.some.inj hF
                refine r_block ?_
                refine r_then ?_
                refine c_ret hf (res_tmp Try.results68 hf rfl) ?_
                exact ⟨_, rfl, hw.below, rfl⟩
              · refine c_iff hf rfl hb28 ?_
                refine c_skip ?_
                refine n_then ?_
                refine c_region ?_
                refine st hf rfl rfl (by decide) (r_move hf rfl) fun a hf => ?_
                refine st hf rfl rfl (by decide) (r_add hf rfl rfl) fun a hf => ?_
                refine st hf rfl rfl (by decide) (r_assign hf rfl) fun a hf => ?_
                refine c_nil ?_
                refine n_block ?_
                refine n_then ?_
                refine c_region ?_
                refine st hf rfl rfl (by decide) (r_move hf rfl) fun a hf => ?_
                refine st hf rfl rfl (by decide) (r_add hf rfl rfl) fun a hf => ?_
                refine st hf rfl rfl (by decide) (r_assign hf rfl) fun a hf => ?_
                refine c_nil ?_
                obtain rfl := Option.some.inj hF
                exact Rnd.goes ⟨_, hw, hf.sub ⟨rfl, rfl, rfl, rfl, trivial⟩⟩
            · refine c_iff hf rfl hb24 ?_
              refine c_exit ?_
              refine x_then ?_
              obtain rfl := Option.some.inj hF
              exact Rnd.stops ⟨_, hw, hf.sub ⟨rfl, rfl, rfl, trivial⟩⟩
          · rintro ⟨s22, s23⟩ a w hs ⟨ρ, hw, hf⟩
            subst hs
            replace hf : Fr 64 a [(0, va0), (1, .int .i64 s22), (5, .int .i64 s3)] := hf
            have hF := hG21
            dsimp only at hF
            refine x_block ?_
            refine n_block ?_
            refine n_then ?_
            refine c_region ?_
            refine st hf rfl rfl (by decide) (r_move hf rfl) fun a hf => ?_
            refine st hf rfl rfl (by decide) (r_add hf rfl rfl) fun a hf => ?_
            refine st hf rfl rfl (by decide) (r_assign hf rfl) fun a hf => ?_
            refine c_nil ?_
            obtain rfl := Option.some.inj hF
            exact Rnd.goes ⟨_, hw, hf.sub ⟨rfl, rfl, rfl, trivial⟩⟩
    · refine c_iff hf rfl hb4 ?_
      refine c_exit ?_
      refine x_then ?_
      obtain rfl := Option.some.inj hF
      exact Rnd.stops ⟨_, hw, hf.sub ⟨rfl, trivial⟩⟩
  · rintro ⟨s2, s3⟩ a w hs ⟨ρ, hw, hf⟩
    subst hs
    replace hf : Fr 64 a [(1, .int .i64 s2)] := hf
    have hF := hG1
    dsimp only at hF
    refine x_block ?_
    refine n_then ?_
    refine c_seq ?_
    refine c_region ?_
    refine st hf rfl rfl (by decide) (r_move hf rfl) fun a hf => ?_
    refine st hf rfl rfl (by decide) (r_assign hf rfl) fun a hf => ?_
    refine c_nt ?_
    refine c_retc ?_
    obtain rfl := Option.some.inj hF
    refine c_ret hf (res_tmp Try.results68 hf rfl) ?_
    exact ⟨_, rfl, hw.below, rfl⟩
/-! f19 -/
noncomputable def laws_heldScheme (a0 : Sch) (a1 : Int) : Option Int :=
  (laws_heldProductS a0.ps a1).bind fun x1 => if (decide (x1 < 0)) = true then (some ((-1))) else (some (x1))
theorem laws_heldScheme_ok {w0 : World} {a0 : Sch} {a1 : Int} {va0 : Value} (h0 : Ro (kf cProd) w0 va0 a0.ps) {r : Int} (hF : laws_heldScheme a0 a1 = some r) :
    Calls Try.prog 19 [.agg ([.int .i64 a0.p, .int .i64 a0.n, .int .i64 a0.m, .int .i64 a0.k, va0]).toArray, .int .i64 a1].toArray w0 fun e w => ∃ v, e = .returned v ∧ Below w0.heap.size w0 w ∧ .int .i64 r = v := by
  refine calls_of (k := 12) Try.func19 rfl rfl (Nat.le_of_ble_eq_true rfl) fun a hf => ?_
  replace hf : Fr 12 a [(0, .agg ([.int .i64 a0.p, .int .i64 a0.n, .int .i64 a0.m, .int .i64 a0.k, va0]).toArray), (1, .int .i64 a1)] := hf
  refine c_start fun w ρ hw => ?_
  unfold laws_heldScheme at hF
  refine c_seq ?_
  refine c_region ?_
  refine st_ex hf rfl rfl (by decide) (r_box (cs := [.int .i64 a0.p, .int .i64 a0.n, .int .i64 a0.m, .int .i64 a0.k, va0]) 1 hw hf rfl rfl) fun a v w hf hΦ => ?_
  obtain ⟨g1, ρ, rfl, hw, hE, o1⟩ := hΦ
  refine st hf rfl rfl (by decide) (r_assign hf rfl) fun a hf => ?_
  refine c_nt ?_
  refine c_seq ?_
  refine c_region ?_
  refine st hf rfl rfl (by decide) (r_fa fa28_4 hf rfl) fun a hf => ?_
  refine st hf rfl rfl (by decide) (r_load_cell ty26 hf rfl (o1.cl.at_ 4 _ rfl)) fun a hf => ?_
  refine st hf rfl rfl (by decide) (r_move hf rfl) fun a hf => ?_
  obtain ⟨x1, hx2, hF⟩ := of_bind hF
  refine st_fn 2 hw hf rfl rfl (by decide) (r_fn en68 hf rfl) (laws_heldProductS_ok (h0.now hw) hx2) fun a v w ρ hf hw hE hN hΦ => ?_
  obtain rfl := hΦ
  replace o1 := o1.ext hE
  refine st hf rfl rfl (by decide) (r_assign hf rfl) fun a hf => ?_
  refine c_nt ?_
  refine c_seq ?_
  refine c_seq ?_
  refine c_region ?_
  refine st hf rfl rfl (by decide) (r_move hf rfl) fun a hf => ?_
  refine st hf rfl rfl (by decide) (r_lss hf rfl rfl) fun a hf => ?_
  refine c_nt ?_
  rcases of_ite hF with ⟨hb3, hF⟩ | ⟨hb3, hF⟩
  · refine c_ift hf rfl hb3 ?_
    refine c_seq ?_
    refine c_region ?_
    refine st hf rfl rfl (by decide) (r_assign hf rfl) fun a hf => ?_
    refine c_nt ?_
    refine c_retc ?_
    obtain rfl := Option.some.inj hF
    refine r_then ?_
    refine c_ret hf (res_tmp Try.results19 hf rfl) ?_
    exact ⟨_, rfl, hw.below, rfl⟩
  · refine c_iff hf rfl hb3 ?_
    refine c_skip ?_
    refine n_then ?_
    refine c_seq ?_
    refine c_region ?_
    refine st hf rfl rfl (by decide) (r_move hf rfl) fun a hf => ?_
    refine st hf rfl rfl (by decide) (r_assign hf rfl) fun a hf => ?_
    refine c_nt ?_
    refine c_retc ?_
    obtain rfl := Option.some.inj hF
    refine c_ret hf (res_tmp Try.results19 hf rfl) ?_
    exact ⟨_, rfl, hw.below, rfl⟩
/-! f130 -/
noncomputable def spec_l01Empty (a0 : Sch) : Option Sch :=
  some ((⟨a0.p, a0.n, a0.m, a0.k, ([] : List Prod)⟩ : Sch))
theorem spec_l01Empty_ok {w0 : World} {a0 : Sch} {va0 : Value} (h0 : Ro (kf cProd) w0 va0 a0.ps) {r : Sch} (hF : spec_l01Empty a0 = some r) :
    Calls Try.prog 130 [.agg ([.int .i64 a0.p, .int .i64 a0.n, .int .i64 a0.m, .int .i64 a0.k, va0]).toArray].toArray w0 fun e w => ∃ v, e = .returned v ∧ Below w0.heap.size w0 w ∧ ∃ u0, .agg [.int .i64 r.p, .int .i64 r.n, .int .i64 r.m, .int .i64 r.k, u0].toArray = v ∧ Fresh (kf cProd) 78 w0 w u0 r.ps := by
  refine calls_of (k := 13) Try.func130 rfl rfl (Nat.le_of_ble_eq_true rfl) fun a hf => ?_
  replace hf : Fr 13 a [(0, .agg ([.int .i64 a0.p, .int .i64 a0.n, .int .i64 a0.m, .int .i64 a0.k, va0]).toArray)] := hf
  refine c_start fun w ρ hw => ?_
  unfold spec_l01Empty at hF
  refine c_seq ?_
  refine c_region ?_
  refine st_ex hf rfl rfl (by decide) (r_box (cs := [.int .i64 a0.p, .int .i64 a0.n, .int .i64 a0.m, .int .i64 a0.k, va0]) 1 hw hf rfl rfl) fun a v w hf hΦ => ?_
  obtain ⟨g1, ρ, rfl, hw, hE, o1⟩ := hΦ
  have o3 : Ow (kf cProd) 78 ρ w w0.heap.size 3 (.slice none 0 0) [] := Ow.nil _ _ _ _ _ _
  refine st_ex hf rfl rfl (by decide) (r_alloc (cs := [.int .i64 0, .int .i64 0, .int .i64 0, .int .i64 0, (.slice none 0 0)]) 2 ze28 rfl hw) fun a v w hf hΦ => ?_
  obtain ⟨g2, ρ, rfl, hw, hE, o2⟩ := hΦ
  replace o1 := o1.ext hE
  replace o3 := o3.ext hE
  refine c_nt ?_
  refine c_seq ?_
  refine c_region ?_
  refine st hf rfl rfl (by decide) (r_fa fa28_0 hf rfl) fun a hf => ?_
  refine st hf rfl rfl (by decide) (r_load_cell ty2 hf rfl (o1.cl.at_ 0 _ rfl)) fun a hf => ?_
  refine st hf rfl rfl (by decide) (r_fa fa28_1 hf rfl) fun a hf => ?_
  refine st hf rfl rfl (by decide) (r_load_cell ty2 hf rfl (o1.cl.at_ 1 _ rfl)) fun a hf => ?_
  refine st hf rfl rfl (by decide) (r_fa fa28_2 hf rfl) fun a hf => ?_
  refine st hf rfl rfl (by decide) (r_load_cell ty2 hf rfl (o1.cl.at_ 2 _ rfl)) fun a hf => ?_
  refine st hf rfl rfl (by decide) (r_fa fa28_3 hf rfl) fun a hf => ?_
  refine st hf rfl rfl (by decide) (r_load_cell ty2 hf rfl (o1.cl.at_ 3 _ rfl)) fun a hf => ?_
  refine st_ex hf rfl rfl (by decide) (r_lit (d := cProd) (xs := ([] : List Prod)) (vs := []) 4 Try.underlying26 el78 (Nat.le_of_ble_eq_true rfl) (Nat.le_of_ble_eq_true rfl) hw hf rfl rfl rfl) fun a v4 w hf hΦ => ?_
  obtain ⟨ρ, hw, hE, o4⟩ := hΦ
  replace o1 := o1.ext hE
  replace o3 := o3.ext hE
  replace o2 := o2.ext hE
  refine st hf rfl rfl (by decide) (r_build_struct (pl := [(0, 1), (1, 1), (2, 1), (3, 1), (4, 1)]) (vs := [(0, .int .i64 a0.p), (1, .int .i64 a0.n), (2, .int .i64 a0.m), (3, .int .i64 a0.k), (4, v4)]) (res := ([.int .i64 a0.p, .int .i64 a0.n, .int .i64 a0.m, .int .i64 a0.k, v4]).toArray) Try.underlying28 (by kernel_rfl) ze28 hf rfl rfl ((fill_step (off := 0) (sz := 1) (cs := [.int .i64 0, .int .i64 0, .int .i64 0, .int .i64 0, .slice none 0 0]) rfl rfl rfl (Nat.le_of_ble_eq_true rfl)).trans ((fill_step (off := 1) (sz := 1) (cs := [.int .i64 a0.p, .int .i64 0, .int .i64 0, .int .i64 0, .slice none 0 0]) rfl rfl rfl (Nat.le_of_ble_eq_true rfl)).trans ((fill_step (off := 2) (sz := 1) (cs := [.int .i64 a0.p, .int .i64 a0.n, .int .i64 0, .int .i64 0, .slice none 0 0]) rfl rfl rfl (Nat.le_of_ble_eq_true rfl)).trans ((fill_step (off := 3) (sz := 1) (cs := [.int .i64 a0.p, .int .i64 a0.n, .int .i64 a0.m, .int .i64 0, .slice none 0 0]) rfl rfl rfl (Nat.le_of_ble_eq_true rfl)).trans ((fill_step (off := 4) (sz := 1) (cs := [.int .i64 a0.p, .int .i64 a0.n, .int .i64 a0.m, .int .i64 a0.k, .slice none 0 0]) rfl o4.ro.cells1 rfl (Nat.le_of_ble_eq_true rfl)).trans rfl)))))) fun a hf => ?_
  refine st_skip hf rfl rfl (r_store_w (cs' := [.int .i64 a0.p, .int .i64 a0.n, .int .i64 a0.m, .int .i64 a0.k, v4]) hw o2 (by decide) ty28 rfl rfl (one_sch o4.ro.one) hf rfl rfl rfl) fun a w hf hΦ => ?_
  obtain ⟨hw, hA, o2⟩ := hΦ
  replace o1 := o1.adv hA (by decide)
  replace o3 := o3.adv hA (by decide)
  replace o4 := o4.adv hA (by decide)
  refine c_nt ?_
  refine c_retc ?_
  obtain rfl := Option.some.inj hF
  refine c_ret hf (res_cell Try.results130 ty28 hf rfl o2.cl rfl) ?_
  exact ⟨_, rfl, hw.below, ⟨_, rfl, o4.out⟩⟩
/-! f176 -/
noncomputable def spec_l02Moved_l5 (a0 : Form) (a2 : Int) (a3 : Int) (a4 : Int) (a5 : Int) (s2 : Int) (s6 : Int) (s7 : Form) : Option (LR (Int × Form) Form) :=
  if (decide (s6 < a2)) = true then (if 0 ≤ w64 ((w64 (a2 * s2)) + s6) ∧ w64 ((w64 (a2 * s2)) + s6) < 9 then (if 0 ≤ w64 ((w64 ((w64 (a3 * (w64 (s2 + a4)))) + s6)) + a5) ∧ w64 ((w64 ((w64 (a3 * (w64 (s2 + a4)))) + s6)) + a5) < 9 then (some (.next (w64 (s6 + 1), vs s7 (w64 ((w64 ((w64 (a3 * (w64 (s2 + a4)))) + s6)) + a5)) (vg 0 a0 (w64 ((w64 (a2 * s2)) + s6)))))) else none) else none) else (some (.stop (s6, s7)))
noncomputable def spec_l02Moved_l1 (a0 : Form) (a1 : Int) (a2 : Int) (a3 : Int) (a4 : Int) (a5 : Int) (s2 : Int) (s3 : Form) : Option (LR (Int × Form) Form) :=
  if (decide (s2 < a1)) = true then ((iter (fun s => spec_l02Moved_l5 a0 a2 a3 a4 a5 s2 s.1 s.2) (0, s3)).bind fun o => match o with | .stop (s6, s7) => (some (.next (w64 (s2 + 1), s7))) | .ret r => some (.ret r) | .next _ => none) else (some (.stop (s2, s3)))
noncomputable def spec_l02Moved (a0 : Form) (a1 : Int) (a2 : Int) (a3 : Int) (a4 : Int) (a5 : Int) : Option Form :=
  (iter (fun s => spec_l02Moved_l1 a0 a1 a2 a3 a4 a5 s.1 s.2) (0, zForm)).bind fun o => match o with | .stop (s2, s3) => (some (s3)) | .ret r => some r | .next _ => none
theorem spec_l02Moved_ok {w0 : World} {a0 : Form} {a1 : Int} {a2 : Int} {a3 : Int} {a4 : Int} {a5 : Int}   {r : Form} (hF : spec_l02Moved a0 a1 a2 a3 a4 a5 = some r) :
    Calls Try.prog 176 [.agg (cForm.enc a0).toArray, .int .i64 a1, .int .i64 a2, .int .i64 a3, .int .i64 a4, .int .i64 a5].toArray w0 fun e w => ∃ v, e = .returned v ∧ Below w0.heap.size w0 w ∧ .agg (cForm.enc r).toArray = v := by
  refine calls_of (k := 45) Try.func176 rfl rfl (Nat.le_of_ble_eq_true rfl) fun a hf => ?_
  replace hf : Fr 45 a [(0, .agg (cForm.enc a0).toArray), (1, .int .i64 a1), (2, .int .i64 a2), (3, .int .i64 a3), (4, .int .i64 a4), (5, .int .i64 a5)] := hf
  refine c_start fun w ρ hw => ?_
  unfold spec_l02Moved at hF
  refine c_seq ?_
  refine c_region ?_
  refine st_ex hf rfl rfl (by decide) (r_box (cs := cForm.enc a0) 1 hw hf rfl rfl) fun a v w hf hΦ => ?_
  obtain ⟨g1, ρ, rfl, hw, hE, o1⟩ := hΦ
  refine st_ex hf rfl rfl (by decide) (r_alloc (cs := cForm.enc zForm) 2 ze39 rfl hw) fun a v w hf hΦ => ?_
  obtain ⟨g2, ρ, rfl, hw, hE, o2⟩ := hΦ
  replace o1 := o1.ext hE
  refine c_nt ?_
  refine c_seq ?_
  refine c_region ?_
  refine st hf rfl rfl (by decide) (r_build_arr (vs := []) (res := (cForm.enc zForm).toArray) Try.underlying39 sz5 ze39 hf rfl rfl rfl) fun a hf => ?_
  refine st_ex hf rfl rfl (by decide) (r_alloc (cs := cForm.enc zForm) 3 ze39 rfl hw) fun a v w hf hΦ => ?_
  obtain ⟨g3, ρ, rfl, hw, hE, o3⟩ := hΦ
  replace o1 := o1.ext hE
  replace o2 := o2.ext hE
  refine st_skip hf rfl rfl (r_store_w (cs' := cForm.enc zForm) hw o3 (by decide) ty39 (cForm.len _) (cForm.len _) (cForm.one _) hf rfl rfl rfl) fun a w hf hΦ => ?_
  obtain ⟨hw, hA, o3⟩ := hΦ
  replace o1 := o1.adv hA (by decide)
  replace o2 := o2.adv hA (by decide)
  refine c_nt ?_
  refine c_seq ?_
  refine c_seq ?_
  refine c_region ?_
  refine st hf rfl rfl (by decide) (r_assign hf rfl) fun a hf => ?_
  refine c_nt ?_
  obtain ⟨ol1, ho1, hG1⟩ := of_bind hF
  clear hF
  refine c_block (c_loop (id := 0) (fun s => spec_l02Moved_l1 a0 a1 a2 a3 a4 a5 s.1 s.2) (fun (s : Int × Form) a w => ∃ ρ, Wd w0 ρ w ∧ Fr 45 a [(1, .int .i64 a1), (2, .int .i64 a2), (3, .int .i64 a3), (4, .int .i64 a4), (5, .int .i64 a5), (6, .pointer (some ((⟨g1, 0, none⟩ : Addr).add 0))), (12, .pointer (some ((⟨g2, 0, none⟩ : Addr).add 0))), (13, .pointer (some ((⟨g3, 0, none⟩ : Addr).add 0))), (14, .int .i64 s.1)] ∧ Va ρ w 1 g1 39 (cForm.enc a0) ∧ Va ρ w 2 g2 39 (cForm.enc zForm) ∧ Va ρ w 3 g3 39 (cForm.enc s.2)) (fun (s : Int × Form) a w => ∃ ρ, Wd w0 ρ w ∧ Fr 45 a [(12, .pointer (some ((⟨g2, 0, none⟩ : Addr).add 0))), (13, .pointer (some ((⟨g3, 0, none⟩ : Addr).add 0)))] ∧ Va ρ w 2 g2 39 (cForm.enc zForm) ∧ Va ρ w 3 g3 39 (cForm.enc s.2)) ho1 ⟨_, hw, hf.sub ⟨rfl, rfl, rfl, rfl, rfl, rfl, rfl, rfl, rfl, trivial⟩, o1, o2, o3⟩ ?_ ?_)
  · rintro ⟨s2, s3⟩ lr a w ⟨ρ, hw, hf, o1, o2, o3⟩ hF
    replace hf : Fr 45 a [(1, .int .i64 a1), (2, .int .i64 a2), (3, .int .i64 a3), (4, .int .i64 a4), (5, .int .i64 a5), (6, .pointer (some ((⟨g1, 0, none⟩ : Addr).add 0))), (12, .pointer (some ((⟨g2, 0, none⟩ : Addr).add 0))), (13, .pointer (some ((⟨g3, 0, none⟩ : Addr).add 0))), (14, .int .i64 s2)] := hf
    replace o1 : Va ρ w 1 g1 39 (cForm.enc a0) := o1
    replace o2 : Va ρ w 2 g2 39 (cForm.enc zForm) := o2
    replace o3 : Va ρ w 3 g3 39 (cForm.enc s3) := o3
    replace hF : spec_l02Moved_l1 a0 a1 a2 a3 a4 a5 s2 s3 = some lr := hF
    unfold spec_l02Moved_l1 at hF
    refine c_seq ?_
    refine c_seq ?_
    refine c_region ?_
    refine st hf rfl rfl (by decide) (r_move hf rfl) fun a hf => ?_
    refine st hf rfl rfl (by decide) (r_move hf rfl) fun a hf => ?_
    refine st hf rfl rfl (by decide) (r_lss hf rfl rfl) fun a hf => ?_
    refine c_nt ?_
    rcases of_ite hF with ⟨hb4, hF⟩ | ⟨hb4, hF⟩
    · refine c_ift hf rfl hb4 ?_
      refine c_skip ?_
      refine n_then ?_
      refine c_seq ?_
      refine c_block ?_
      refine c_seq ?_
      refine c_region ?_
      refine st hf rfl rfl (by decide) (r_assign hf rfl) fun a hf => ?_
      refine c_nt ?_
      obtain ⟨ol5, ho5, hG5⟩ := of_bind hF
      clear hF
      refine c_block (c_loop (id := 2) (fun s => spec_l02Moved_l5 a0 a2 a3 a4 a5 s2 s.1 s.2) (fun (s : Int × Form) a w => ∃ ρ, Wd w0 ρ w ∧ Fr 45 a [(1, .int .i64 a1), (2, .int .i64 a2), (3, .int .i64 a3), (4, .int .i64 a4), (5, .int .i64 a5), (6, .pointer (some ((⟨g1, 0, none⟩ : Addr).add 0))), (12, .pointer (some ((⟨g2, 0, none⟩ : Addr).add 0))), (13, .pointer (some ((⟨g3, 0, none⟩ : Addr).add 0))), (14, .int .i64 s2), (15, .int .i64 s.1)] ∧ Va ρ w 1 g1 39 (cForm.enc a0) ∧ Va ρ w 2 g2 39 (cForm.enc zForm) ∧ Va ρ w 3 g3 39 (cForm.enc s.2)) (fun (s : Int × Form) a w => ∃ ρ, Wd w0 ρ w ∧ Fr 45 a [(1, .int .i64 a1), (2, .int .i64 a2), (3, .int .i64 a3), (4, .int .i64 a4), (5, .int .i64 a5), (6, .pointer (some ((⟨g1, 0, none⟩ : Addr).add 0))), (12, .pointer (some ((⟨g2, 0, none⟩ : Addr).add 0))), (13, .pointer (some ((⟨g3, 0, none⟩ : Addr).add 0))), (14, .int .i64 s2)] ∧ Va ρ w 1 g1 39 (cForm.enc a0) ∧ Va ρ w 2 g2 39 (cForm.enc zForm) ∧ Va ρ w 3 g3 39 (cForm.enc s.2)) ho5 ⟨_, hw, hf.sub ⟨rfl, rfl, rfl, rfl, rfl, rfl, rfl, rfl, rfl, rfl, trivial⟩, o1, o2, o3⟩ ?_ ?_)
      · rintro ⟨s6, s7⟩ lr a w ⟨ρ, hw, hf, o1, o2, o3⟩ hF
        replace hf : Fr 45 a [(1, .int .i64 a1), (2, .int .i64 a2), (3, .int .i64 a3), (4, .int .i64 a4), (5, .int .i64 a5), (6, .pointer (some ((⟨g1, 0, none⟩ : Addr).add 0))), (12, .pointer (some ((⟨g2, 0, none⟩ : Addr).add 0))), (13, .pointer (some ((⟨g3, 0, none⟩ : Addr).add 0))), (14, .int .i64 s2), (15, .int .i64 s6)] := hf
        replace o1 : Va ρ w 1 g1 39 (cForm.enc a0) := o1
        replace o2 : Va ρ w 2 g2 39 (cForm.enc zForm) := o2
        replace o3 : Va ρ w 3 g3 39 (cForm.enc s7) := o3
        replace hF : spec_l02Moved_l5 a0 a2 a3 a4 a5 s2 s6 s7 = some lr := hF
        unfold spec_l02Moved_l5 at hF
        refine c_seq ?_
        refine c_seq ?_
        refine c_region ?_
        refine st hf rfl rfl (by decide) (r_move hf rfl) fun a hf => ?_
        refine st hf rfl rfl (by decide) (r_move hf rfl) fun a hf => ?_
        refine st hf rfl rfl (by decide) (r_lss hf rfl rfl) fun a hf => ?_
        refine c_nt ?_
        rcases of_ite hF with ⟨hb8, hF⟩ | ⟨hb8, hF⟩
        · refine c_ift hf rfl hb8 ?_
          refine c_skip ?_
          refine n_then ?_
          refine c_seq ?_
          refine c_block ?_
          refine c_region ?_
          refine st hf rfl rfl (by decide) (r_move hf rfl) fun a hf => ?_
          refine st hf rfl rfl (by decide) (r_move hf rfl) fun a hf => ?_
          refine st hf rfl rfl (by decide) (r_move hf rfl) fun a hf => ?_
          refine st hf rfl rfl (by decide) (r_add hf rfl rfl) fun a hf => ?_
          refine st hf rfl rfl (by decide) (r_mul hf rfl rfl) fun a hf => ?_
          refine st hf rfl rfl (by decide) (r_move hf rfl) fun a hf => ?_
          refine st hf rfl rfl (by decide) (r_add hf rfl rfl) fun a hf => ?_
          refine st hf rfl rfl (by decide) (r_move hf rfl) fun a hf => ?_
          refine st hf rfl rfl (by decide) (r_add hf rfl rfl) fun a hf => ?_
          refine st hf rfl rfl (by decide) (r_move hf rfl) fun a hf => ?_
          refine st hf rfl rfl (by decide) (r_move hf rfl) fun a hf => ?_
          refine st hf rfl rfl (by decide) (r_mul hf rfl rfl) fun a hf => ?_
          refine st hf rfl rfl (by decide) (r_move hf rfl) fun a hf => ?_
          refine st hf rfl rfl (by decide) (r_add hf rfl rfl) fun a hf => ?_
          obtain ⟨hc9, hF⟩ := of_guard hF
          refine st hf rfl rfl (by decide) (r_indexAddr_arr Try.underlying39 sz5 hf rfl rfl hc9.1 hc9.2) fun a hf => ?_
          refine st hf rfl rfl (by decide) (r_load_cell ty5 hf rfl (o1.cl.lens (Lens.vec 0 fU8 (w64 ((w64 (a2 * s2)) + s6)) hc9.1 hc9.2))) fun a hf => ?_
          obtain ⟨hc10, hF⟩ := of_guard hF
          refine st hf rfl rfl (by decide) (r_indexAddr_arr Try.underlying39 sz5 hf rfl rfl hc10.1 hc10.2) fun a hf => ?_
          refine st_skip hf rfl rfl (r_store_l (b := vg 0 a0 (w64 ((w64 (a2 * s2)) + s6))) hw o3 (by decide) (Lens.vec 0 fU8 (w64 ((w64 ((w64 (a3 * (w64 (s2 + a4)))) + s6)) + a5)) hc10.1 hc10.2) (by simp only [Nat.zero_add] <;> rfl) ty5 hf rfl rfl rfl) fun a w hf hΦ => ?_
          obtain ⟨hw, hA, o3⟩ := hΦ
          replace o1 := o1.adv hA (by decide)
          replace o2 := o2.adv hA (by decide)
          refine c_nil ?_
          refine n_block ?_
          refine n_then ?_
          refine c_region ?_
          refine st hf rfl rfl (by decide) (r_move hf rfl) fun a hf => ?_
          refine st hf rfl rfl (by decide) (r_add hf rfl rfl) fun a hf => ?_
          refine st hf rfl rfl (by decide) (r_assign hf rfl) fun a hf => ?_
          refine c_nil ?_
          obtain rfl := Option.some.inj hF
          exact Rnd.goes ⟨_, hw, hf.sub ⟨rfl, rfl, rfl, rfl, rfl, rfl, rfl, rfl, rfl, rfl, trivial⟩, o1, o2, o3⟩
        · refine c_iff hf rfl hb8 ?_
          refine c_exit ?_
          refine x_then ?_
          obtain rfl := Option.some.inj hF
          exact Rnd.stops ⟨_, hw, hf.sub ⟨rfl, rfl, rfl, rfl, rfl, rfl, rfl, rfl, rfl, trivial⟩, o1, o2, o3⟩
      · rintro ⟨s6, s7⟩ a w hs ⟨ρ, hw, hf, o1, o2, o3⟩
        subst hs
        replace hf : Fr 45 a [(1, .int .i64 a1), (2, .int .i64 a2), (3, .int .i64 a3), (4, .int .i64 a4), (5, .int .i64 a5), (6, .pointer (some ((⟨g1, 0, none⟩ : Addr).add 0))), (12, .pointer (some ((⟨g2, 0, none⟩ : Addr).add 0))), (13, .pointer (some ((⟨g3, 0, none⟩ : Addr).add 0))), (14, .int .i64 s2)] := hf
        replace o1 : Va ρ w 1 g1 39 (cForm.enc a0) := o1
        replace o2 : Va ρ w 2 g2 39 (cForm.enc zForm) := o2
        replace o3 : Va ρ w 3 g3 39 (cForm.enc s7) := o3
        have hF := hG5
        dsimp only at hF
        refine x_block ?_
        refine n_block ?_
        refine n_then ?_
        refine c_region ?_
        refine st hf rfl rfl (by decide) (r_move hf rfl) fun a hf => ?_
        refine st hf rfl rfl (by decide) (r_add hf rfl rfl) fun a hf => ?_
        refine st hf rfl rfl (by decide) (r_assign hf rfl) fun a hf => ?_
        refine c_nil ?_
        obtain rfl := Option.some.inj hF
        exact Rnd.goes ⟨_, hw, hf.sub ⟨rfl, rfl, rfl, rfl, rfl, rfl, rfl, rfl, rfl, trivial⟩, o1, o2, o3⟩
    · refine c_iff hf rfl hb4 ?_
      refine c_exit ?_
      refine x_then ?_
      obtain rfl := Option.some.inj hF
      exact Rnd.stops ⟨_, hw, hf.sub ⟨rfl, rfl, trivial⟩, o2, o3⟩
  · rintro ⟨s2, s3⟩ a w hs ⟨ρ, hw, hf, o2, o3⟩
    subst hs
    replace hf : Fr 45 a [(12, .pointer (some ((⟨g2, 0, none⟩ : Addr).add 0))), (13, .pointer (some ((⟨g3, 0, none⟩ : Addr).add 0)))] := hf
    replace o2 : Va ρ w 2 g2 39 (cForm.enc zForm) := o2
    replace o3 : Va ρ w 3 g3 39 (cForm.enc s3) := o3
    have hF := hG1
    dsimp only at hF
    refine x_block ?_
    refine n_then ?_
    refine c_seq ?_
    refine c_region ?_
    refine st hf rfl rfl (by decide) (r_load_agg ty39 hf rfl o3.cl (cForm.len _)) fun a hf => ?_
    refine st_skip hf rfl rfl (r_store_w (cs' := cForm.enc s3) hw o2 (by decide) ty39 (cForm.len _) (cForm.len _) (cForm.one _) hf rfl rfl rfl) fun a w hf hΦ => ?_
    obtain ⟨hw, hA, o2⟩ := hΦ
    replace o3 := o3.adv hA (by decide)
    refine c_nt ?_
    refine c_retc ?_
    obtain rfl := Option.some.inj hF
    refine c_ret hf (res_cell Try.results176 ty39 hf rfl o2.cl (cForm.len _)) ?_
    exact ⟨_, rfl, hw.below, rfl⟩
/-! f159 -/
noncomputable def spec_l02Put_l1 (a0 : Sch) (a1 : Sch) (a2 : Int) (a3 : Int) (a4 : Int) (s2 : Int) (s3 : List Prod) : Option (LR (Int × (List Prod)) Sch) :=
  if (decide (s2 < (a0.ps.length : Int))) = true then (if 0 ≤ s2 ∧ s2 < (a0.ps.length : Int) then ((spec_l02Moved ((gl zProd a0.ps s2).1) a0.n a0.m a1.m a2 a3).bind fun x8 => (spec_l02Moved ((gl zProd a0.ps s2).2.1) a0.m a0.k a1.k a3 a4).bind fun x10 => (spec_l02Moved ((gl zProd a0.ps s2).2.2) a0.n a0.k a1.k a2 a4).bind fun x12 => if (s3.length + ([(x8, x10, x12)]).length) * 27 ≤ 140737488355328 then (some (.next (w64 (s2 + 1), (s3 ++ [(x8, x10, x12)])))) else none) else none) else (some (.stop (s2, s3)))
noncomputable def spec_l02Put (a0 : Sch) (a1 : Sch) (a2 : Int) (a3 : Int) (a4 : Int) : Option Sch :=
  (iter (fun s => spec_l02Put_l1 a0 a1 a2 a3 a4 s.1 s.2) (0, a1.ps)).bind fun o => match o with | .stop (s2, s3) => (some ((⟨a1.p, a1.n, a1.m, a1.k, s3⟩ : Sch))) | .ret r => some r | .next _ => none
theorem spec_l02Put_ok {w0 ws : World} {ρ0 : Nat → Nat} {i : Nat} (hi : i ≠ 0) (hW : Wd w0 ρ0 ws) {a0 : Sch} {a1 : Sch} {a2 : Int} {a3 : Int} {a4 : Int} {va0 : Value} {va1 : Value} (h0 : Ro (kf cProd) w0 va0 a0.ps) (h1 : Ow (kf cProd) 78 ρ0 ws w0.heap.size i va1 a1.ps) {r : Sch} (hF : spec_l02Put a0 a1 a2 a3 a4 = some r) :
    Calls Try.prog 159 [.agg ([.int .i64 a0.p, .int .i64 a0.n, .int .i64 a0.m, .int .i64 a0.k, va0]).toArray, .agg ([.int .i64 a1.p, .int .i64 a1.n, .int .i64 a1.m, .int .i64 a1.k, va1]).toArray, .int .i64 a2, .int .i64 a3, .int .i64 a4].toArray ws fun e w => ∃ v, e = .returned v ∧ ∃ ρ', Wd w0 ρ' w ∧ Adv i ρ0 ws ρ' w ∧ ∃ u0, .agg [.int .i64 r.p, .int .i64 r.n, .int .i64 r.m, .int .i64 r.k, u0].toArray = v ∧ Ow (kf cProd) 78 ρ' w w0.heap.size i u0 r.ps := by
  refine calls_of (k := 67) Try.func159 rfl rfl (Nat.le_of_ble_eq_true rfl) fun a hf => ?_
  replace hf : Fr 67 a [(0, .agg ([.int .i64 a0.p, .int .i64 a0.n, .int .i64 a0.m, .int .i64 a0.k, va0]).toArray), (1, .agg ([.int .i64 a1.p, .int .i64 a1.n, .int .i64 a1.m, .int .i64 a1.k, va1]).toArray), (2, .int .i64 a2), (3, .int .i64 a3), (4, .int .i64 a4)] := hf
  refine c_startm hi hW h1 fun w ρ hw oA o1 => ?_
  unfold spec_l02Put at hF
  refine c_seq ?_
  refine c_region ?_
  refine st_ex hf rfl rfl (by decide) (r_box (cs := [.int .i64 a0.p, .int .i64 a0.n, .int .i64 a0.m, .int .i64 a0.k, va0]) 2 hw hf rfl rfl) fun a v w hf hΦ => ?_
  obtain ⟨g2, ρ, rfl, hw, hE, o2⟩ := hΦ
  replace oA := oA.ext hE
  replace o1 := o1.ext hE
  refine st_ex hf rfl rfl (by decide) (r_box (cs := [.int .i64 a1.p, .int .i64 a1.n, .int .i64 a1.m, .int .i64 a1.k, va1]) 3 hw hf rfl rfl) fun a v w hf hΦ => ?_
  obtain ⟨g3, ρ, rfl, hw, hE, o3⟩ := hΦ
  replace oA := oA.ext hE
  replace o1 := o1.ext hE
  replace o2 := o2.ext hE
  have o5 : Ow (kf cProd) 78 ρ w w0.heap.size 5 (.slice none 0 0) [] := Ow.nil _ _ _ _ _ _
  refine st_ex hf rfl rfl (by decide) (r_alloc (cs := [.int .i64 0, .int .i64 0, .int .i64 0, .int .i64 0, (.slice none 0 0)]) 4 ze28 rfl hw) fun a v w hf hΦ => ?_
  obtain ⟨g4, ρ, rfl, hw, hE, o4⟩ := hΦ
  replace oA := oA.ext hE
  replace o1 := o1.ext hE
  replace o2 := o2.ext hE
  replace o3 := o3.ext hE
  replace o5 := o5.ext hE
  refine c_nt ?_
  refine c_seq ?_
  refine c_seq ?_
  refine c_region ?_
  refine st hf rfl rfl (by decide) (r_assign hf rfl) fun a hf => ?_
  refine c_nt ?_
  obtain ⟨ol1, ho1, hG1⟩ := of_bind hF
  clear hF
  refine c_block (c_loop (id := 0) (fun s => spec_l02Put_l1 a0 a1 a2 a3 a4 s.1 s.2) (fun (s : Int × (List Prod)) a w => ∃ ρ v4, Wd w0 ρ w ∧ Fr 67 a [(2, .int .i64 a2), (3, .int .i64 a3), (4, .int .i64 a4), (5, .pointer (some ((⟨g2, 0, none⟩ : Addr).add 0))), (6, .pointer (some ((⟨g3, 0, none⟩ : Addr).add 0))), (10, .pointer (some ((⟨g4, 0, none⟩ : Addr).add 0))), (11, .int .i64 s.1)] ∧ Old (oneOf ρ0 i) ws ρ w ∧ Ow (kf cProd) 78 ρ w w0.heap.size 1 v4 s.2 ∧ Va ρ w 2 g2 28 ([.int .i64 a0.p, .int .i64 a0.n, .int .i64 a0.m, .int .i64 a0.k, va0]) ∧ Va ρ w 3 g3 28 ([.int .i64 a1.p, .int .i64 a1.n, .int .i64 a1.m, .int .i64 a1.k, v4]) ∧ Va ρ w 4 g4 28 ([.int .i64 0, .int .i64 0, .int .i64 0, .int .i64 0, (.slice none 0 0)]) ∧ Ow (kf cProd) 78 ρ w w0.heap.size 5 (.slice none 0 0) ([] : List Prod)) (fun (s : Int × (List Prod)) a w => ∃ ρ v4, Wd w0 ρ w ∧ Fr 67 a [(6, .pointer (some ((⟨g3, 0, none⟩ : Addr).add 0))), (10, .pointer (some ((⟨g4, 0, none⟩ : Addr).add 0)))] ∧ Old (oneOf ρ0 i) ws ρ w ∧ Ow (kf cProd) 78 ρ w w0.heap.size 1 v4 s.2 ∧ Va ρ w 3 g3 28 ([.int .i64 a1.p, .int .i64 a1.n, .int .i64 a1.m, .int .i64 a1.k, v4]) ∧ Va ρ w 4 g4 28 ([.int .i64 0, .int .i64 0, .int .i64 0, .int .i64 0, (.slice none 0 0)]) ∧ Ow (kf cProd) 78 ρ w w0.heap.size 5 (.slice none 0 0) ([] : List Prod)) ho1 ⟨_, _, hw, hf.sub ⟨rfl, rfl, rfl, rfl, rfl, rfl, rfl, trivial⟩, oA, o1, o2, o3, o4, o5⟩ ?_ ?_)
  · rintro ⟨s2, s3⟩ lr a w ⟨ρ, v4, hw, hf, oA, o1, o2, o3, o4, o5⟩ hF
    replace hf : Fr 67 a [(2, .int .i64 a2), (3, .int .i64 a3), (4, .int .i64 a4), (5, .pointer (some ((⟨g2, 0, none⟩ : Addr).add 0))), (6, .pointer (some ((⟨g3, 0, none⟩ : Addr).add 0))), (10, .pointer (some ((⟨g4, 0, none⟩ : Addr).add 0))), (11, .int .i64 s2)] := hf
    replace oA : Old (oneOf ρ0 i) ws ρ w := oA
    replace o1 : Ow (kf cProd) 78 ρ w w0.heap.size 1 v4 s3 := o1
    replace o2 : Va ρ w 2 g2 28 ([.int .i64 a0.p, .int .i64 a0.n, .int .i64 a0.m, .int .i64 a0.k, va0]) := o2
    replace o3 : Va ρ w 3 g3 28 ([.int .i64 a1.p, .int .i64 a1.n, .int .i64 a1.m, .int .i64 a1.k, v4]) := o3
    replace o4 : Va ρ w 4 g4 28 ([.int .i64 0, .int .i64 0, .int .i64 0, .int .i64 0, (.slice none 0 0)]) := o4
    replace o5 : Ow (kf cProd) 78 ρ w w0.heap.size 5 (.slice none 0 0) ([] : List Prod) := o5
    replace hF : spec_l02Put_l1 a0 a1 a2 a3 a4 s2 s3 = some lr := hF
    unfold spec_l02Put_l1 at hF
    refine c_seq ?_
    refine c_seq ?_
    refine c_region ?_
    refine st hf rfl rfl (by decide) (r_move hf rfl) fun a hf => ?_
    refine st hf rfl rfl (by decide) (r_fa fa28_4 hf rfl) fun a hf => ?_
    refine st hf rfl rfl (by decide) (r_load_cell ty26 hf rfl (o2.cl.at_ 4 _ rfl)) fun a hf => ?_
    refine st hf rfl rfl (by decide) (r_len Try.underlying26 (h0.now hw) hf rfl) fun a hf => ?_
    refine st hf rfl rfl (by decide) (r_lss hf rfl rfl) fun a hf => ?_
    refine c_nt ?_
    rcases of_ite hF with ⟨hb5, hF⟩ | ⟨hb5, hF⟩
    · refine c_ift hf rfl hb5 ?_
      refine c_skip ?_
      refine n_then ?_
      refine c_seq ?_
      refine c_block ?_
      refine c_seq ?_
      refine c_region ?_
      refine st hf rfl rfl (by decide) (r_fa fa28_4 hf rfl) fun a hf => ?_
      refine st hf rfl rfl (by decide) (r_load_cell ty26 hf rfl (o2.cl.at_ 4 _ rfl)) fun a hf => ?_
      refine st hf rfl rfl (by decide) (r_move hf rfl) fun a hf => ?_
      obtain ⟨hc6, hF⟩ := of_guard hF
      obtain ⟨ad7, c7, he7, hl7⟩ := Ro.el cProd h0 zProd hc6.1 hc6.2
      refine st hf rfl rfl (by decide) (r_idx Try.underlying26 sz78 hf rfl ⟨_, he7⟩ rfl hc6.1 hc6.2) fun a hf => ?_
      refine st hf rfl rfl (by decide) (r_load_agg ty78 hf rfl (hl7.below hw.below) (cProd.len _)) fun a hf => ?_
      refine st_ex hf rfl rfl (by decide) (r_alloc (cs := cProd.enc zProd) 6 ze78 rfl hw) fun a v w hf hΦ => ?_
      obtain ⟨g6, ρ, rfl, hw, hE, o6⟩ := hΦ
      replace oA := oA.ext hE
      replace o1 := o1.ext hE
      replace o2 := o2.ext hE
      replace o3 := o3.ext hE
      replace o4 := o4.ext hE
      replace o5 := o5.ext hE
      refine st_skip hf rfl rfl (r_store_w (cs' := cProd.enc (gl zProd a0.ps s2)) hw o6 (by decide) ty78 (cProd.len _) (cProd.len _) (cProd.one _) hf rfl rfl rfl) fun a w hf hΦ => ?_
      obtain ⟨hw, hA, o6⟩ := hΦ
      replace oA := oA.adv hA (by decide)
      replace o1 := o1.adv hA (by decide)
      replace o2 := o2.adv hA (by decide)
      replace o3 := o3.adv hA (by decide)
      replace o4 := o4.adv hA (by decide)
      replace o5 := o5.adv hA (by decide)
      refine c_nt ?_
      refine c_seq ?_
      obtain ⟨x8, hx9, hF⟩ := of_bind hF
      obtain ⟨x10, hx11, hF⟩ := of_bind hF
      obtain ⟨x12, hx13, hF⟩ := of_bind hF
      replace hf : Fr 67 a [(2, .int .i64 a2), (3, .int .i64 a3), (4, .int .i64 a4), (5, .pointer (some ((⟨g2, 0, none⟩ : Addr).add 0))), (6, .pointer (some ((⟨g3, 0, none⟩ : Addr).add 0))), (10, .pointer (some ((⟨g4, 0, none⟩ : Addr).add 0))), (11, .int .i64 s2), (12, .pointer (some ((⟨g6, 0, none⟩ : Addr).add 0)))] := hf.sub ⟨rfl, rfl, rfl, rfl, rfl, rfl, rfl, rfl, trivial⟩
      refine c_drawL (h := 35) mixed (by kernel_rfl) (by kernel_rfl) (fun ρ w => Old (oneOf ρ0 i) ws ρ w ∧ Ow (kf cProd) 78 ρ w w0.heap.size 1 v4 s3 ∧ Va ρ w 2 g2 28 ([.int .i64 a0.p, .int .i64 a0.n, .int .i64 a0.m, .int .i64 a0.k, va0]) ∧ Va ρ w 3 g3 28 ([.int .i64 a1.p, .int .i64 a1.n, .int .i64 a1.m, .int .i64 a1.k, v4]) ∧ Va ρ w 4 g4 28 ([.int .i64 0, .int .i64 0, .int .i64 0, .int .i64 0, (.slice none 0 0)]) ∧ Ow (kf cProd) 78 ρ w w0.heap.size 5 (.slice none 0 0) ([] : List Prod) ∧ Va ρ w 6 g6 78 (cProd.enc (gl zProd a0.ps s2))) ?_ [fun ρ w v => .pointer (some ((⟨g6, 0, none⟩ : Addr).add (0 + 0))) = v, fun ρ w v => .agg (cForm.enc ((gl zProd a0.ps s2).1)).toArray = v, fun ρ w v => .pointer (some ((⟨g2, 0, none⟩ : Addr).add (0 + 1))) = v, fun ρ w v => .int .i64 a0.n = v, fun ρ w v => .pointer (some ((⟨g2, 0, none⟩ : Addr).add (0 + 2))) = v, fun ρ w v => .int .i64 a0.m = v, fun ρ w v => .pointer (some ((⟨g3, 0, none⟩ : Addr).add (0 + 2))) = v, fun ρ w v => .int .i64 a1.m = v, fun ρ w v => .int .i64 a2 = v, fun ρ w v => .int .i64 a3 = v, fun ρ w v => .agg (cForm.enc x8).toArray = v, fun ρ w v => .pointer (some ((⟨g6, 0, none⟩ : Addr).add (0 + 9))) = v, fun ρ w v => .agg (cForm.enc ((gl zProd a0.ps s2).2.1)).toArray = v, fun ρ w v => .pointer (some ((⟨g2, 0, none⟩ : Addr).add (0 + 2))) = v, fun ρ w v => .int .i64 a0.m = v, fun ρ w v => .pointer (some ((⟨g2, 0, none⟩ : Addr).add (0 + 3))) = v, fun ρ w v => .int .i64 a0.k = v, fun ρ w v => .pointer (some ((⟨g3, 0, none⟩ : Addr).add (0 + 3))) = v, fun ρ w v => .int .i64 a1.k = v, fun ρ w v => .int .i64 a3 = v, fun ρ w v => .int .i64 a4 = v, fun ρ w v => .agg (cForm.enc x10).toArray = v, fun ρ w v => .pointer (some ((⟨g6, 0, none⟩ : Addr).add (0 + 18))) = v, fun ρ w v => .agg (cForm.enc ((gl zProd a0.ps s2).2.2)).toArray = v, fun ρ w v => .pointer (some ((⟨g2, 0, none⟩ : Addr).add (0 + 1))) = v, fun ρ w v => .int .i64 a0.n = v, fun ρ w v => .pointer (some ((⟨g2, 0, none⟩ : Addr).add (0 + 3))) = v, fun ρ w v => .int .i64 a0.k = v, fun ρ w v => .pointer (some ((⟨g3, 0, none⟩ : Addr).add (0 + 3))) = v, fun ρ w v => .int .i64 a1.k = v, fun ρ w v => .int .i64 a2 = v, fun ρ w v => .int .i64 a4 = v, fun ρ w v => .agg (cForm.enc x12).toArray = v, fun ρ w v => .agg (cProd.enc (x8, x10, x12)).toArray = v, fun ρ w v => ∃ g10, .pointer (some ((⟨g10, 0, none⟩ : Addr).add 0)) = v ∧ Va ρ w 10 g10 78 (cProd.enc zProd)] ?_ hw ⟨oA, o1, o2, o3, o4, o5, o6⟩ hf ?_ ?_
      · intro ρ w ρ' w' hE hG
        obtain ⟨oA, o1, o2, o3, o4, o5, o6⟩ := hG
        exact ⟨oA.ext hE, o1.ext hE, o2.ext hE, o3.ext hE, o4.ext hE, o5.ext hE, o6.ext hE⟩
      · exact LastsL.cons (fun _ _ _ _ _ _ h => h) <| LastsL.cons (fun _ _ _ _ _ _ h => h) <| LastsL.cons (fun _ _ _ _ _ _ h => h) <| LastsL.cons (fun _ _ _ _ _ _ h => h) <| LastsL.cons (fun _ _ _ _ _ _ h => h) <| LastsL.cons (fun _ _ _ _ _ _ h => h) <| LastsL.cons (fun _ _ _ _ _ _ h => h) <| LastsL.cons (fun _ _ _ _ _ _ h => h) <| LastsL.cons (fun _ _ _ _ _ _ h => h) <| LastsL.cons (fun _ _ _ _ _ _ h => h) <| LastsL.cons (fun _ _ _ _ _ _ h => h) <| LastsL.cons (fun _ _ _ _ _ _ h => h) <| LastsL.cons (fun _ _ _ _ _ _ h => h) <| LastsL.cons (fun _ _ _ _ _ _ h => h) <| LastsL.cons (fun _ _ _ _ _ _ h => h) <| LastsL.cons (fun _ _ _ _ _ _ h => h) <| LastsL.cons (fun _ _ _ _ _ _ h => h) <| LastsL.cons (fun _ _ _ _ _ _ h => h) <| LastsL.cons (fun _ _ _ _ _ _ h => h) <| LastsL.cons (fun _ _ _ _ _ _ h => h) <| LastsL.cons (fun _ _ _ _ _ _ h => h) <| LastsL.cons (fun _ _ _ _ _ _ h => h) <| LastsL.cons (fun _ _ _ _ _ _ h => h) <| LastsL.cons (fun _ _ _ _ _ _ h => h) <| LastsL.cons (fun _ _ _ _ _ _ h => h) <| LastsL.cons (fun _ _ _ _ _ _ h => h) <| LastsL.cons (fun _ _ _ _ _ _ h => h) <| LastsL.cons (fun _ _ _ _ _ _ h => h) <| LastsL.cons (fun _ _ _ _ _ _ h => h) <| LastsL.cons (fun _ _ _ _ _ _ h => h) <| LastsL.cons (fun _ _ _ _ _ _ h => h) <| LastsL.cons (fun _ _ _ _ _ _ h => h) <| LastsL.cons (fun _ _ _ _ _ _ h => h) <| LastsL.cons (fun _ _ _ _ _ _ h => h) <| LastsL.cons (fun _ _ _ _ _ hE h => by obtain ⟨g10, h, o10⟩ := h; exact ⟨_, h, o10.ext hE⟩) <| LastsL.nil
      · refine StepsB.cons ?_ <| StepsB.cons ?_ <| StepsB.cons ?_ <| StepsB.cons ?_ <| StepsB.cons ?_ <| StepsB.cons ?_ <| StepsB.cons ?_ <| StepsB.cons ?_ <| StepsB.cons ?_ <| StepsB.cons ?_ <| StepsB.cons ?_ <| StepsB.cons ?_ <| StepsB.cons ?_ <| StepsB.cons ?_ <| StepsB.cons ?_ <| StepsB.cons ?_ <| StepsB.cons ?_ <| StepsB.cons ?_ <| StepsB.cons ?_ <| StepsB.cons ?_ <| StepsB.cons ?_ <| StepsB.cons ?_ <| StepsB.cons ?_ <| StepsB.cons ?_ <| StepsB.cons ?_ <| StepsB.cons ?_ <| StepsB.cons ?_ <| StepsB.cons ?_ <| StepsB.cons ?_ <| StepsB.cons ?_ <| StepsB.cons ?_ <| StepsB.cons ?_ <| StepsB.cons ?_ <| StepsB.cons ?_ <| StepsB.cons ?_ <| StepsB.nil
        · intro ρ w a hw hG hf hd K hK
          obtain ⟨oA, o1, o2, o3, o4, o5, o6⟩ := hG
          exact d_val (R := fun ρ w v => .pointer (some ((⟨g6, 0, none⟩ : Addr).add (0 + 0))) = v) hw (wn rfl) (r_fa fa78_0 hf rfl) rfl rfl hK
        · intro ρ w a hw hG hf hd K hK
          obtain ⟨oA, o1, o2, o3, o4, o5, o6⟩ := hG
          obtain ⟨_, ht, rfl⟩ := hd 0 (by kernel_rfl)
          replace hf := hf.more ht
          exact d_val (R := fun ρ w v => .agg (cForm.enc ((gl zProd a0.ps s2).1)).toArray = v) hw (wn rfl) (r_load_agg ty39 hf rfl (o6.cl.lens lProd_0) (cForm.len _)) rfl rfl hK
        · intro ρ w a hw hG hf hd K hK
          obtain ⟨oA, o1, o2, o3, o4, o5, o6⟩ := hG
          exact d_val (R := fun ρ w v => .pointer (some ((⟨g2, 0, none⟩ : Addr).add (0 + 1))) = v) hw (wn rfl) (r_fa fa28_1 hf rfl) rfl rfl hK
        · intro ρ w a hw hG hf hd K hK
          obtain ⟨oA, o1, o2, o3, o4, o5, o6⟩ := hG
          obtain ⟨_, ht, rfl⟩ := hd 2 (by kernel_rfl)
          replace hf := hf.more ht
          exact d_val (R := fun ρ w v => .int .i64 a0.n = v) hw (wn rfl) (r_load_cell ty2 hf rfl (o2.cl.at_ 1 _ rfl)) rfl rfl hK
        · intro ρ w a hw hG hf hd K hK
          obtain ⟨oA, o1, o2, o3, o4, o5, o6⟩ := hG
          exact d_val (R := fun ρ w v => .pointer (some ((⟨g2, 0, none⟩ : Addr).add (0 + 2))) = v) hw (wn rfl) (r_fa fa28_2 hf rfl) rfl rfl hK
        · intro ρ w a hw hG hf hd K hK
          obtain ⟨oA, o1, o2, o3, o4, o5, o6⟩ := hG
          obtain ⟨_, ht, rfl⟩ := hd 4 (by kernel_rfl)
          replace hf := hf.more ht
          exact d_val (R := fun ρ w v => .int .i64 a0.m = v) hw (wn rfl) (r_load_cell ty2 hf rfl (o2.cl.at_ 2 _ rfl)) rfl rfl hK
        · intro ρ w a hw hG hf hd K hK
          obtain ⟨oA, o1, o2, o3, o4, o5, o6⟩ := hG
          exact d_val (R := fun ρ w v => .pointer (some ((⟨g3, 0, none⟩ : Addr).add (0 + 2))) = v) hw (wn rfl) (r_fa fa28_2 hf rfl) rfl rfl hK
        · intro ρ w a hw hG hf hd K hK
          obtain ⟨oA, o1, o2, o3, o4, o5, o6⟩ := hG
          obtain ⟨_, ht, rfl⟩ := hd 6 (by kernel_rfl)
          replace hf := hf.more ht
          exact d_val (R := fun ρ w v => .int .i64 a1.m = v) hw (wn rfl) (r_load_cell ty2 hf rfl (o3.cl.at_ 2 _ rfl)) rfl rfl hK
        · intro ρ w a hw hG hf hd K hK
          obtain ⟨oA, o1, o2, o3, o4, o5, o6⟩ := hG
          exact d_val (R := fun ρ w v => .int .i64 a2 = v) hw (wn rfl) (r_move hf rfl) rfl rfl hK
        · intro ρ w a hw hG hf hd K hK
          obtain ⟨oA, o1, o2, o3, o4, o5, o6⟩ := hG
          exact d_val (R := fun ρ w v => .int .i64 a3 = v) hw (wn rfl) (r_move hf rfl) rfl rfl hK
        · intro ρ w a hw hG hf hd K hK
          obtain ⟨oA, o1, o2, o3, o4, o5, o6⟩ := hG
          obtain ⟨_, ht, rfl⟩ := hd 1 (by kernel_rfl)
          replace hf := hf.more ht
          obtain ⟨_, ht, rfl⟩ := hd 3 (by kernel_rfl)
          replace hf := hf.more ht
          obtain ⟨_, ht, rfl⟩ := hd 5 (by kernel_rfl)
          replace hf := hf.more ht
          obtain ⟨_, ht, rfl⟩ := hd 7 (by kernel_rfl)
          replace hf := hf.more ht
          obtain ⟨_, ht, rfl⟩ := hd 8 (by kernel_rfl)
          replace hf := hf.more ht
          obtain ⟨_, ht, rfl⟩ := hd 9 (by kernel_rfl)
          replace hf := hf.more ht
          refine d_call (R := fun ρ w v => .agg (cForm.enc x8).toArray = v) hw (wn rfl) (r_fn en176 hf rfl) (spec_l02Moved_ok  hx9) rfl (fun v w' hΦ => ?_) hK
          obtain ⟨hb, hΦ⟩ := hΦ
          obtain rfl := hΦ
          have hE := Ext.new (ρ := ρ) 7 hb
          exact ⟨_, hw.new 7 hb, hE, rfl⟩
        · intro ρ w a hw hG hf hd K hK
          obtain ⟨oA, o1, o2, o3, o4, o5, o6⟩ := hG
          exact d_val (R := fun ρ w v => .pointer (some ((⟨g6, 0, none⟩ : Addr).add (0 + 9))) = v) hw (wn rfl) (r_fa fa78_1 hf rfl) rfl rfl hK
        · intro ρ w a hw hG hf hd K hK
          obtain ⟨oA, o1, o2, o3, o4, o5, o6⟩ := hG
          obtain ⟨_, ht, rfl⟩ := hd 11 (by kernel_rfl)
          replace hf := hf.more ht
          exact d_val (R := fun ρ w v => .agg (cForm.enc ((gl zProd a0.ps s2).2.1)).toArray = v) hw (wn rfl) (r_load_agg ty39 hf rfl (o6.cl.lens lProd_1) (cForm.len _)) rfl rfl hK
        · intro ρ w a hw hG hf hd K hK
          obtain ⟨oA, o1, o2, o3, o4, o5, o6⟩ := hG
          exact d_val (R := fun ρ w v => .pointer (some ((⟨g2, 0, none⟩ : Addr).add (0 + 2))) = v) hw (wn rfl) (r_fa fa28_2 hf rfl) rfl rfl hK
        · intro ρ w a hw hG hf hd K hK
          obtain ⟨oA, o1, o2, o3, o4, o5, o6⟩ := hG
          obtain ⟨_, ht, rfl⟩ := hd 13 (by kernel_rfl)
          replace hf := hf.more ht
          exact d_val (R := fun ρ w v => .int .i64 a0.m = v) hw (wn rfl) (r_load_cell ty2 hf rfl (o2.cl.at_ 2 _ rfl)) rfl rfl hK
        · intro ρ w a hw hG hf hd K hK
          obtain ⟨oA, o1, o2, o3, o4, o5, o6⟩ := hG
          exact d_val (R := fun ρ w v => .pointer (some ((⟨g2, 0, none⟩ : Addr).add (0 + 3))) = v) hw (wn rfl) (r_fa fa28_3 hf rfl) rfl rfl hK
        · intro ρ w a hw hG hf hd K hK
          obtain ⟨oA, o1, o2, o3, o4, o5, o6⟩ := hG
          obtain ⟨_, ht, rfl⟩ := hd 15 (by kernel_rfl)
          replace hf := hf.more ht
          exact d_val (R := fun ρ w v => .int .i64 a0.k = v) hw (wn rfl) (r_load_cell ty2 hf rfl (o2.cl.at_ 3 _ rfl)) rfl rfl hK
        · intro ρ w a hw hG hf hd K hK
          obtain ⟨oA, o1, o2, o3, o4, o5, o6⟩ := hG
          exact d_val (R := fun ρ w v => .pointer (some ((⟨g3, 0, none⟩ : Addr).add (0 + 3))) = v) hw (wn rfl) (r_fa fa28_3 hf rfl) rfl rfl hK
        · intro ρ w a hw hG hf hd K hK
          obtain ⟨oA, o1, o2, o3, o4, o5, o6⟩ := hG
          obtain ⟨_, ht, rfl⟩ := hd 17 (by kernel_rfl)
          replace hf := hf.more ht
          exact d_val (R := fun ρ w v => .int .i64 a1.k = v) hw (wn rfl) (r_load_cell ty2 hf rfl (o3.cl.at_ 3 _ rfl)) rfl rfl hK
        · intro ρ w a hw hG hf hd K hK
          obtain ⟨oA, o1, o2, o3, o4, o5, o6⟩ := hG
          exact d_val (R := fun ρ w v => .int .i64 a3 = v) hw (wn rfl) (r_move hf rfl) rfl rfl hK
        · intro ρ w a hw hG hf hd K hK
          obtain ⟨oA, o1, o2, o3, o4, o5, o6⟩ := hG
          exact d_val (R := fun ρ w v => .int .i64 a4 = v) hw (wn rfl) (r_move hf rfl) rfl rfl hK
        · intro ρ w a hw hG hf hd K hK
          obtain ⟨oA, o1, o2, o3, o4, o5, o6⟩ := hG
          obtain ⟨_, ht, rfl⟩ := hd 12 (by kernel_rfl)
          replace hf := hf.more ht
          obtain ⟨_, ht, rfl⟩ := hd 14 (by kernel_rfl)
          replace hf := hf.more ht
          obtain ⟨_, ht, rfl⟩ := hd 16 (by kernel_rfl)
          replace hf := hf.more ht
          obtain ⟨_, ht, rfl⟩ := hd 18 (by kernel_rfl)
          replace hf := hf.more ht
          obtain ⟨_, ht, rfl⟩ := hd 19 (by kernel_rfl)
          replace hf := hf.more ht
          obtain ⟨_, ht, rfl⟩ := hd 20 (by kernel_rfl)
          replace hf := hf.more ht
          refine d_call (R := fun ρ w v => .agg (cForm.enc x10).toArray = v) hw (wn rfl) (r_fn en176 hf rfl) (spec_l02Moved_ok  hx11) rfl (fun v w' hΦ => ?_) hK
          obtain ⟨hb, hΦ⟩ := hΦ
          obtain rfl := hΦ
          have hE := Ext.new (ρ := ρ) 8 hb
          exact ⟨_, hw.new 8 hb, hE, rfl⟩
        · intro ρ w a hw hG hf hd K hK
          obtain ⟨oA, o1, o2, o3, o4, o5, o6⟩ := hG
          exact d_val (R := fun ρ w v => .pointer (some ((⟨g6, 0, none⟩ : Addr).add (0 + 18))) = v) hw (wn rfl) (r_fa fa78_2 hf rfl) rfl rfl hK
        · intro ρ w a hw hG hf hd K hK
          obtain ⟨oA, o1, o2, o3, o4, o5, o6⟩ := hG
          obtain ⟨_, ht, rfl⟩ := hd 22 (by kernel_rfl)
          replace hf := hf.more ht
          exact d_val (R := fun ρ w v => .agg (cForm.enc ((gl zProd a0.ps s2).2.2)).toArray = v) hw (wn rfl) (r_load_agg ty39 hf rfl (o6.cl.lens lProd_2) (cForm.len _)) rfl rfl hK
        · intro ρ w a hw hG hf hd K hK
          obtain ⟨oA, o1, o2, o3, o4, o5, o6⟩ := hG
          exact d_val (R := fun ρ w v => .pointer (some ((⟨g2, 0, none⟩ : Addr).add (0 + 1))) = v) hw (wn rfl) (r_fa fa28_1 hf rfl) rfl rfl hK
        · intro ρ w a hw hG hf hd K hK
          obtain ⟨oA, o1, o2, o3, o4, o5, o6⟩ := hG
          obtain ⟨_, ht, rfl⟩ := hd 24 (by kernel_rfl)
          replace hf := hf.more ht
          exact d_val (R := fun ρ w v => .int .i64 a0.n = v) hw (wn rfl) (r_load_cell ty2 hf rfl (o2.cl.at_ 1 _ rfl)) rfl rfl hK
        · intro ρ w a hw hG hf hd K hK
          obtain ⟨oA, o1, o2, o3, o4, o5, o6⟩ := hG
          exact d_val (R := fun ρ w v => .pointer (some ((⟨g2, 0, none⟩ : Addr).add (0 + 3))) = v) hw (wn rfl) (r_fa fa28_3 hf rfl) rfl rfl hK
        · intro ρ w a hw hG hf hd K hK
          obtain ⟨oA, o1, o2, o3, o4, o5, o6⟩ := hG
          obtain ⟨_, ht, rfl⟩ := hd 26 (by kernel_rfl)
          replace hf := hf.more ht
          exact d_val (R := fun ρ w v => .int .i64 a0.k = v) hw (wn rfl) (r_load_cell ty2 hf rfl (o2.cl.at_ 3 _ rfl)) rfl rfl hK
        · intro ρ w a hw hG hf hd K hK
          obtain ⟨oA, o1, o2, o3, o4, o5, o6⟩ := hG
          exact d_val (R := fun ρ w v => .pointer (some ((⟨g3, 0, none⟩ : Addr).add (0 + 3))) = v) hw (wn rfl) (r_fa fa28_3 hf rfl) rfl rfl hK
        · intro ρ w a hw hG hf hd K hK
          obtain ⟨oA, o1, o2, o3, o4, o5, o6⟩ := hG
          obtain ⟨_, ht, rfl⟩ := hd 28 (by kernel_rfl)
          replace hf := hf.more ht
          exact d_val (R := fun ρ w v => .int .i64 a1.k = v) hw (wn rfl) (r_load_cell ty2 hf rfl (o3.cl.at_ 3 _ rfl)) rfl rfl hK
        · intro ρ w a hw hG hf hd K hK
          obtain ⟨oA, o1, o2, o3, o4, o5, o6⟩ := hG
          exact d_val (R := fun ρ w v => .int .i64 a2 = v) hw (wn rfl) (r_move hf rfl) rfl rfl hK
        · intro ρ w a hw hG hf hd K hK
          obtain ⟨oA, o1, o2, o3, o4, o5, o6⟩ := hG
          exact d_val (R := fun ρ w v => .int .i64 a4 = v) hw (wn rfl) (r_move hf rfl) rfl rfl hK
        · intro ρ w a hw hG hf hd K hK
          obtain ⟨oA, o1, o2, o3, o4, o5, o6⟩ := hG
          obtain ⟨_, ht, rfl⟩ := hd 23 (by kernel_rfl)
          replace hf := hf.more ht
          obtain ⟨_, ht, rfl⟩ := hd 25 (by kernel_rfl)
          replace hf := hf.more ht
          obtain ⟨_, ht, rfl⟩ := hd 27 (by kernel_rfl)
          replace hf := hf.more ht
          obtain ⟨_, ht, rfl⟩ := hd 29 (by kernel_rfl)
          replace hf := hf.more ht
          obtain ⟨_, ht, rfl⟩ := hd 30 (by kernel_rfl)
          replace hf := hf.more ht
          obtain ⟨_, ht, rfl⟩ := hd 31 (by kernel_rfl)
          replace hf := hf.more ht
          refine d_call (R := fun ρ w v => .agg (cForm.enc x12).toArray = v) hw (wn rfl) (r_fn en176 hf rfl) (spec_l02Moved_ok  hx13) rfl (fun v w' hΦ => ?_) hK
          obtain ⟨hb, hΦ⟩ := hΦ
          obtain rfl := hΦ
          have hE := Ext.new (ρ := ρ) 9 hb
          exact ⟨_, hw.new 9 hb, hE, rfl⟩
        · intro ρ w a hw hG hf hd K hK
          obtain ⟨oA, o1, o2, o3, o4, o5, o6⟩ := hG
          obtain ⟨_, ht, rfl⟩ := hd 10 (by kernel_rfl)
          replace hf := hf.more ht
          obtain ⟨_, ht, rfl⟩ := hd 21 (by kernel_rfl)
          replace hf := hf.more ht
          obtain ⟨_, ht, rfl⟩ := hd 32 (by kernel_rfl)
          replace hf := hf.more ht
          exact d_val (R := fun ρ w v => .agg (cProd.enc (x8, x10, x12)).toArray = v) hw (wn rfl) (r_build_struct (pl := [(0, 9), (9, 9), (18, 9)]) (vs := [(0, .agg (cForm.enc x8).toArray), (1, .agg (cForm.enc x10).toArray), (2, .agg (cForm.enc x12).toArray)]) (res := (cProd.enc (x8, x10, x12)).toArray) Try.underlying78 (by kernel_rfl) ze78 hf rfl rfl ((fill_lens (d := cProd) (z := zProd) lProd_0 rfl rfl).trans ((fill_lens (d := cProd) (z := (x8, zProd.2.1, zProd.2.2)) lProd_1 rfl rfl).trans ((fill_lens (d := cProd) (z := (x8, x10, zProd.2.2)) lProd_2 rfl rfl).trans rfl)))) rfl rfl hK
        · intro ρ w a hw hG hf hd K hK
          obtain ⟨oA, o1, o2, o3, o4, o5, o6⟩ := hG
          refine d_ex (R := fun ρ w v => ∃ g10, .pointer (some ((⟨g10, 0, none⟩ : Addr).add 0)) = v ∧ Va ρ w 10 g10 78 (cProd.enc zProd)) hw (wn rfl) (r_alloc (cs := cProd.enc zProd) 10 ze78 rfl hw) rfl (fun v w' hΦ => ?_) hK
          obtain ⟨g10, ρ, rfl, hw, hE, o10⟩ := hΦ
          exact ⟨_, hw, hE, _, rfl, o10⟩
      · intro ρ w a hw hG hf hd
        obtain ⟨oA, o1, o2, o3, o4, o5, o6⟩ := hG
        replace hf : Fr 67 a [(2, .int .i64 a2), (3, .int .i64 a3), (4, .int .i64 a4), (5, .pointer (some ((⟨g2, 0, none⟩ : Addr).add 0))), (6, .pointer (some ((⟨g3, 0, none⟩ : Addr).add 0))), (10, .pointer (some ((⟨g4, 0, none⟩ : Addr).add 0))), (11, .int .i64 s2), (12, .pointer (some ((⟨g6, 0, none⟩ : Addr).add 0)))] := hf
        obtain ⟨_, ht, rfl⟩ := hd 33 (by decide)
        replace hf := hf.more ht
        obtain ⟨_, ht, ⟨g10, rfl, o10⟩⟩ := hd 34 (by decide)
        replace hf := hf.more ht
        refine st_skip hf rfl rfl (r_store_w (cs' := cProd.enc (x8, x10, x12)) hw o10 (by decide) ty78 (cProd.len _) (cProd.len _) (cProd.one _) hf rfl rfl rfl) fun a w hf hΦ => ?_
        obtain ⟨hw, hA, o10⟩ := hΦ
        replace oA := oA.adv hA (by decide)
        replace o1 := o1.adv hA (by decide)
        replace o2 := o2.adv hA (by decide)
        replace o3 := o3.adv hA (by decide)
        replace o4 := o4.adv hA (by decide)
        replace o5 := o5.adv hA (by decide)
        replace o6 := o6.adv hA (by decide)
        refine c_nt ?_
        refine c_region ?_
        refine st hf rfl rfl (by decide) (r_fa fa28_4 hf rfl) fun a hf => ?_
        refine st hf rfl rfl (by decide) (r_load_cell ty26 hf rfl (o3.cl.at_ 4 _ rfl)) fun a hf => ?_
        refine st hf rfl rfl (by decide) (r_load_agg ty78 hf rfl o10.cl (cProd.len _)) fun a hf => ?_
        refine st_ex hf rfl rfl (by decide) (r_lit (d := cProd) (xs := ([(x8, x10, x12)] : List Prod)) (vs := [.agg (cProd.enc (x8, x10, x12)).toArray]) 11 Try.underlying26 el78 (Nat.le_of_ble_eq_true rfl) (Nat.le_of_ble_eq_true rfl) hw hf rfl rfl rfl) fun a v11 w hf hΦ => ?_
        obtain ⟨ρ, hw, hE, o11⟩ := hΦ
        replace oA := oA.ext hE
        replace o1 := o1.ext hE
        replace o2 := o2.ext hE
        replace o3 := o3.ext hE
        replace o4 := o4.ext hE
        replace o5 := o5.ext hE
        replace o6 := o6.ext hE
        replace o10 := o10.ext hE
        obtain ⟨hc14, hF⟩ := of_guard hF
        refine st_ex hf rfl rfl (by decide) (r_append Try.underlying26 el78 hw (by decide) o1 o11.ro hc14 hf rfl rfl) fun a va15 w hf hΦ => ?_
        obtain ⟨ρ, hw, hA, o1⟩ := hΦ
        replace oA := oA.adv hA (by decide)
        replace o2 := o2.adv hA (by decide)
        replace o3 := o3.adv hA (by decide)
        replace o4 := o4.adv hA (by decide)
        replace o5 := o5.adv hA (by decide)
        replace o6 := o6.adv hA (by decide)
        replace o10 := o10.adv hA (by decide)
        replace o11 := o11.adv hA (by decide)
        refine st hf rfl rfl (by decide) (r_fa fa28_4 hf rfl) fun a hf => ?_
        refine st_skip hf rfl rfl (r_store_c hw o3 (by decide) ty26 (Nat.le_of_ble_eq_true rfl) hf rfl rfl o1.ro.cells1 o1.ro.one) fun a w hf hΦ => ?_
        obtain ⟨hw, hA, o3⟩ := hΦ
        replace oA := oA.adv hA (by decide)
        replace o1 := o1.adv hA (by decide)
        replace o2 := o2.adv hA (by decide)
        replace o4 := o4.adv hA (by decide)
        replace o5 := o5.adv hA (by decide)
        replace o6 := o6.adv hA (by decide)
        replace o10 := o10.adv hA (by decide)
        replace o11 := o11.adv hA (by decide)
        replace o3 : Va ρ w 3 g3 28 ([.int .i64 a1.p, .int .i64 a1.n, .int .i64 a1.m, .int .i64 a1.k, va15]) := o3
        refine c_nil ?_
        refine n_block ?_
        refine n_then ?_
        refine c_region ?_
        refine st hf rfl rfl (by decide) (r_move hf rfl) fun a hf => ?_
        refine st hf rfl rfl (by decide) (r_add hf rfl rfl) fun a hf => ?_
        refine st hf rfl rfl (by decide) (r_assign hf rfl) fun a hf => ?_
        refine c_nil ?_
        obtain rfl := Option.some.inj hF
        exact Rnd.goes ⟨_, _, hw, hf.sub ⟨rfl, rfl, rfl, rfl, rfl, rfl, rfl, trivial⟩, oA, o1, o2, o3, o4, o5⟩
    · refine c_iff hf rfl hb5 ?_
      refine c_exit ?_
      refine x_then ?_
      obtain rfl := Option.some.inj hF
      exact Rnd.stops ⟨_, _, hw, hf.sub ⟨rfl, rfl, trivial⟩, oA, o1, o3, o4, o5⟩
  · rintro ⟨s2, s3⟩ a w hs ⟨ρ, v4, hw, hf, oA, o1, o3, o4, o5⟩
    subst hs
    replace hf : Fr 67 a [(6, .pointer (some ((⟨g3, 0, none⟩ : Addr).add 0))), (10, .pointer (some ((⟨g4, 0, none⟩ : Addr).add 0)))] := hf
    replace oA : Old (oneOf ρ0 i) ws ρ w := oA
    replace o1 : Ow (kf cProd) 78 ρ w w0.heap.size 1 v4 s3 := o1
    replace o3 : Va ρ w 3 g3 28 ([.int .i64 a1.p, .int .i64 a1.n, .int .i64 a1.m, .int .i64 a1.k, v4]) := o3
    replace o4 : Va ρ w 4 g4 28 ([.int .i64 0, .int .i64 0, .int .i64 0, .int .i64 0, (.slice none 0 0)]) := o4
    replace o5 : Ow (kf cProd) 78 ρ w w0.heap.size 5 (.slice none 0 0) ([] : List Prod) := o5
    have hF := hG1
    dsimp only at hF
    refine x_block ?_
    refine n_then ?_
    refine c_seq ?_
    refine c_region ?_
    refine st hf rfl rfl (by decide) (r_load_agg ty28 hf rfl o3.cl rfl) fun a hf => ?_
    refine st_skip hf rfl rfl (r_store_w (cs' := [.int .i64 a1.p, .int .i64 a1.n, .int .i64 a1.m, .int .i64 a1.k, v4]) hw o4 (by decide) ty28 rfl rfl (one_sch o1.ro.one) hf rfl rfl rfl) fun a w hf hΦ => ?_
    obtain ⟨hw, hA, o4⟩ := hΦ
    replace oA := oA.adv hA (by decide)
    replace o1 := o1.adv hA (by decide)
    replace o3 := o3.adv hA (by decide)
    replace o5 := o5.adv hA (by decide)
    refine c_nt ?_
    refine c_retc ?_
    obtain rfl := Option.some.inj hF
    refine c_ret hf (res_cell Try.results159 ty28 hf rfl o4.cl rfl) ?_
    exact ⟨_, rfl, _, m_wd hW hw oA, m_adv oA, _, rfl, m_ow oA o1⟩
/-! f123 -/
noncomputable def spec_l02Join (a0 : Sch) (a1 : Sch) (a2 : Int) : Option Sch :=
  (spec_l01Empty a0).bind fun x1 => if (decide (a2 = 0)) = true then ((spec_l02Put a0 (⟨x1.p, w64 (a0.n + a1.n), x1.m, x1.k, x1.ps⟩ : Sch) 0 0 0).bind fun x6 => (spec_l02Put a1 x6 a0.n 0 0).bind fun x9 => some (x9)) else (if (decide (a2 = 1)) = true then ((spec_l02Put a0 (⟨x1.p, x1.n, w64 (a0.m + a1.m), x1.k, x1.ps⟩ : Sch) 0 0 0).bind fun x13 => (spec_l02Put a1 x13 0 a0.m 0).bind fun x16 => some (x16)) else ((spec_l02Put a0 (⟨x1.p, x1.n, x1.m, w64 (a0.k + a1.k), x1.ps⟩ : Sch) 0 0 0).bind fun x19 => (spec_l02Put a1 x19 0 0 a0.k).bind fun x22 => some (x22)))
theorem spec_l02Join_ok {w0 : World} {a0 : Sch} {a1 : Sch} {a2 : Int} {va0 : Value} {va1 : Value} (h0 : Ro (kf cProd) w0 va0 a0.ps) (h1 : Ro (kf cProd) w0 va1 a1.ps) {r : Sch} (hF : spec_l02Join a0 a1 a2 = some r) :
    Calls Try.prog 123 [.agg ([.int .i64 a0.p, .int .i64 a0.n, .int .i64 a0.m, .int .i64 a0.k, va0]).toArray, .agg ([.int .i64 a1.p, .int .i64 a1.n, .int .i64 a1.m, .int .i64 a1.k, va1]).toArray, .int .i64 a2].toArray w0 fun e w => ∃ v, e = .returned v ∧ Below w0.heap.size w0 w ∧ ∃ u0, .agg [.int .i64 r.p, .int .i64 r.n, .int .i64 r.m, .int .i64 r.k, u0].toArray = v ∧ Fresh (kf cProd) 78 w0 w u0 r.ps := by
  refine calls_of (k := 54) Try.func123 rfl rfl (Nat.le_of_ble_eq_true rfl) fun a hf => ?_
  replace hf : Fr 54 a [(0, .agg ([.int .i64 a0.p, .int .i64 a0.n, .int .i64 a0.m, .int .i64 a0.k, va0]).toArray), (1, .agg ([.int .i64 a1.p, .int .i64 a1.n, .int .i64 a1.m, .int .i64 a1.k, va1]).toArray), (2, .int .i64 a2)] := hf
  refine c_start fun w ρ hw => ?_
  unfold spec_l02Join at hF
  refine c_seq ?_
  refine c_region ?_
  refine st_ex hf rfl rfl (by decide) (r_box (cs := [.int .i64 a0.p, .int .i64 a0.n, .int .i64 a0.m, .int .i64 a0.k, va0]) 1 hw hf rfl rfl) fun a v w hf hΦ => ?_
  obtain ⟨g1, ρ, rfl, hw, hE, o1⟩ := hΦ
  refine st_ex hf rfl rfl (by decide) (r_box (cs := [.int .i64 a1.p, .int .i64 a1.n, .int .i64 a1.m, .int .i64 a1.k, va1]) 2 hw hf rfl rfl) fun a v w hf hΦ => ?_
  obtain ⟨g2, ρ, rfl, hw, hE, o2⟩ := hΦ
  replace o1 := o1.ext hE
  have o4 : Ow (kf cProd) 78 ρ w w0.heap.size 4 (.slice none 0 0) [] := Ow.nil _ _ _ _ _ _
  refine st_ex hf rfl rfl (by decide) (r_alloc (cs := [.int .i64 0, .int .i64 0, .int .i64 0, .int .i64 0, (.slice none 0 0)]) 3 ze28 rfl hw) fun a v w hf hΦ => ?_
  obtain ⟨g3, ρ, rfl, hw, hE, o3⟩ := hΦ
  replace o1 := o1.ext hE
  replace o2 := o2.ext hE
  replace o4 := o4.ext hE
  refine c_nt ?_
  refine c_seq ?_
  refine c_region ?_
  refine st hf rfl rfl (by decide) (r_load_agg ty28 hf rfl o1.cl rfl) fun a hf => ?_
  obtain ⟨x1, hx2, hF⟩ := of_bind hF
  refine st_fn 5 hw hf rfl rfl (by decide) (r_fn en130 hf rfl) (spec_l01Empty_ok (a0 := a0) (h0.now hw) hx2) fun a v w ρ hf hw hE hN hΦ => ?_
  obtain ⟨u3, rfl, hr4⟩ := hΦ
  replace o1 := o1.ext hE
  replace o2 := o2.ext hE
  replace o4 := o4.ext hE
  replace o3 := o3.ext hE
  have o5 := hN hr4
  have o7 : Ow (kf cProd) 78 ρ w w0.heap.size 7 (.slice none 0 0) [] := Ow.nil _ _ _ _ _ _
  refine st_ex hf rfl rfl (by decide) (r_alloc (cs := [.int .i64 0, .int .i64 0, .int .i64 0, .int .i64 0, (.slice none 0 0)]) 6 ze28 rfl hw) fun a v w hf hΦ => ?_
  obtain ⟨g6, ρ, rfl, hw, hE, o6⟩ := hΦ
  replace o1 := o1.ext hE
  replace o2 := o2.ext hE
  replace o4 := o4.ext hE
  replace o3 := o3.ext hE
  replace o5 := o5.ext hE
  replace o7 := o7.ext hE
  refine st_skip hf rfl rfl (r_store_w (cs' := [.int .i64 x1.p, .int .i64 x1.n, .int .i64 x1.m, .int .i64 x1.k, u3]) hw o6 (by decide) ty28 rfl rfl (one_sch o5.ro.one) hf rfl rfl rfl) fun a w hf hΦ => ?_
  obtain ⟨hw, hA, o6⟩ := hΦ
  replace o1 := o1.adv hA (by decide)
  replace o2 := o2.adv hA (by decide)
  replace o4 := o4.adv hA (by decide)
  replace o3 := o3.adv hA (by decide)
  replace o5 := o5.adv hA (by decide)
  replace o7 := o7.adv hA (by decide)
  refine c_nt ?_
  refine c_seq ?_
  refine c_seq ?_
  refine c_region ?_
  refine st hf rfl rfl (by decide) (r_move hf rfl) fun a hf => ?_
  refine c_nt ?_
  refine c_block ?_
  refine c_seq ?_
  refine c_region ?_
  refine st hf rfl rfl (by decide) (r_eql hf rfl rfl) fun a hf => ?_
  refine st hf rfl rfl (by decide) (r_assign hf rfl) fun a hf => ?_
  refine c_nt ?_
  rcases of_ite hF with ⟨hb5, hF⟩ | ⟨hb5, hF⟩
  · refine c_ift hf rfl hb5 ?_
    refine c_seq ?_
    refine c_region ?_
    refine st hf rfl rfl (by decide) (r_fa fa28_1 hf rfl) fun a hf => ?_
    refine st hf rfl rfl (by decide) (r_load_cell ty2 hf rfl (o1.cl.at_ 1 _ rfl)) fun a hf => ?_
    refine st hf rfl rfl (by decide) (r_fa fa28_1 hf rfl) fun a hf => ?_
    refine st hf rfl rfl (by decide) (r_load_cell ty2 hf rfl (o2.cl.at_ 1 _ rfl)) fun a hf => ?_
    refine st hf rfl rfl (by decide) (r_add hf rfl rfl) fun a hf => ?_
    refine st hf rfl rfl (by decide) (r_fa fa28_1 hf rfl) fun a hf => ?_
    refine st_skip hf rfl rfl (r_store_c hw o6 (by decide) ty2 (Nat.le_of_ble_eq_true rfl) hf rfl rfl rfl rfl) fun a w hf hΦ => ?_
    obtain ⟨hw, hA, o6⟩ := hΦ
    replace o1 := o1.adv hA (by decide)
    replace o2 := o2.adv hA (by decide)
    replace o4 := o4.adv hA (by decide)
    replace o3 := o3.adv hA (by decide)
    replace o5 := o5.adv hA (by decide)
    replace o7 := o7.adv hA (by decide)
    replace o6 : Va ρ w 6 g6 28 ([.int .i64 x1.p, .int .i64 (w64 (a0.n + a1.n)), .int .i64 x1.m, .int .i64 x1.k, u3]) := o6
    refine c_nt ?_
    refine c_seq ?_
    obtain ⟨x6, hx7, hF⟩ := of_bind hF
    replace hf : Fr 54 a [(3, .pointer (some ((⟨g1, 0, none⟩ : Addr).add 0))), (4, .pointer (some ((⟨g2, 0, none⟩ : Addr).add 0))), (6, .pointer (some ((⟨g3, 0, none⟩ : Addr).add 0))), (7, .pointer (some ((⟨g6, 0, none⟩ : Addr).add 0)))] := hf.sub ⟨rfl, rfl, rfl, rfl, trivial⟩
    refine c_stage 6 [3] mixed (by kernel_rfl) (by kernel_rfl) (fun c ρ w => Va ρ w 1 g1 28 ([.int .i64 a0.p, .int .i64 a0.n, .int .i64 a0.m, .int .i64 a0.k, va0]) ∧ Va ρ w 2 g2 28 ([.int .i64 a1.p, .int .i64 a1.n, .int .i64 a1.m, .int .i64 a1.k, va1]) ∧ Va ρ w 3 g3 28 ([.int .i64 0, .int .i64 0, .int .i64 0, .int .i64 0, (.slice none 0 0)]) ∧ Ow (kf cProd) 78 ρ w w0.heap.size 4 (.slice none 0 0) ([] : List Prod) ∧ Va ρ w 6 g6 28 ([.int .i64 x1.p, .int .i64 (w64 (a0.n + a1.n)), .int .i64 x1.m, .int .i64 x1.k, u3]) ∧ (c ≤ 0 → Ow (kf cProd) 78 ρ w w0.heap.size 5 u3 x1.ps)) ?_ [fun c ρ w v => .agg ([.int .i64 a1.p, .int .i64 a1.n, .int .i64 a1.m, .int .i64 a1.k, va1]).toArray = v, fun c ρ w v => .agg ([.int .i64 a0.p, .int .i64 a0.n, .int .i64 a0.m, .int .i64 a0.k, va0]).toArray = v, fun c ρ w v => .agg ([.int .i64 x1.p, .int .i64 (w64 (a0.n + a1.n)), .int .i64 x1.m, .int .i64 x1.k, u3]).toArray = v, fun c ρ w v => ∃ u8, .agg ([.int .i64 x6.p, .int .i64 x6.n, .int .i64 x6.m, .int .i64 x6.k, u8]).toArray = v ∧ Ow (kf cProd) 78 ρ w w0.heap.size 5 u8 x6.ps, fun c ρ w v => .pointer (some ((⟨g1, 0, none⟩ : Addr).add (0 + 1))) = v, fun c ρ w v => .int .i64 a0.n = v] ?_ hw ⟨o1, o2, o3, o4, o6, (fun _ => o5)⟩ hf ?_ ?_
    · intro c ρ w ρ' w' hE hG
      obtain ⟨o1, o2, o3, o4, o6, o5x⟩ := hG
      exact ⟨o1.ext hE, o2.ext hE, o3.ext hE, o4.ext hE, o6.ext hE, (fun h => (o5x h).ext hE)⟩
    · exact LastsS.cons (fun _ _ _ _ _ _ _ h => h) <| LastsS.cons (fun _ _ _ _ _ _ _ h => h) <| LastsS.cons (fun _ _ _ _ _ _ _ h => h) <| LastsS.cons (fun c _ _ _ _ _ hE h => by obtain ⟨u8, h, o5⟩ := h; exact ⟨_, h, o5.ext hE⟩) <| LastsS.cons (fun _ _ _ _ _ _ _ h => h) <| LastsS.cons (fun _ _ _ _ _ _ _ h => h) <| LastsS.nil
    · refine StepsS.float rfl ?_ <| StepsS.float rfl ?_ <| StepsS.float rfl ?_ <| StepsS.main 0 rfl rfl ?_ <| StepsS.float rfl ?_ <| StepsS.float rfl ?_ <| StepsS.nil
      · intro c ρ w a hs hw hG hf hd K hK
        obtain ⟨o1, o2, o3, o4, o6, o5x⟩ := hG
        exact d_val (R := fun ρ w v => .agg ([.int .i64 a1.p, .int .i64 a1.n, .int .i64 a1.m, .int .i64 a1.k, va1]).toArray = v) hw (wn rfl) (r_load_agg ty28 hf rfl o2.cl rfl) rfl rfl hK
      · intro c ρ w a hs hw hG hf hd K hK
        obtain ⟨o1, o2, o3, o4, o6, o5x⟩ := hG
        have o5 := o5x (hs 0 (by decide) (by kernel_rfl))
        exact d_val (R := fun ρ w v => .agg ([.int .i64 a0.p, .int .i64 a0.n, .int .i64 a0.m, .int .i64 a0.k, va0]).toArray = v) hw (wn rfl) (r_load_agg ty28 hf rfl o1.cl rfl) rfl rfl hK
      · intro c ρ w a hs hw hG hf hd K hK
        obtain ⟨o1, o2, o3, o4, o6, o5x⟩ := hG
        have o5 := o5x (hs 0 (by decide) (by kernel_rfl))
        exact d_val (R := fun ρ w v => .agg ([.int .i64 x1.p, .int .i64 (w64 (a0.n + a1.n)), .int .i64 x1.m, .int .i64 x1.k, u3]).toArray = v) hw (wn rfl) (r_load_agg ty28 hf rfl o6.cl rfl) rfl rfl hK
      · intro ρ w a S hw hG hf hS hdep hSi K hK
        obtain ⟨o1, o2, o3, o4, o6, o5x⟩ := hG
        have hfL := hf
        have o5 := o5x (by decide)
        obtain ⟨_, ht1, rfl⟩ := hS 1 (by decide) (hdep 1 (by kernel_rfl)) (by kernel_rfl)
        replace hf := hf.more ht1
        obtain ⟨_, ht2, rfl⟩ := hS 2 (by decide) (hdep 2 (by kernel_rfl)) (by kernel_rfl)
        replace hf := hf.more ht2
        refine m_call (ms := [3]) (Γ := fun c ρ w => Va ρ w 1 g1 28 ([.int .i64 a0.p, .int .i64 a0.n, .int .i64 a0.m, .int .i64 a0.k, va0]) ∧ Va ρ w 2 g2 28 ([.int .i64 a1.p, .int .i64 a1.n, .int .i64 a1.m, .int .i64 a1.k, va1]) ∧ Va ρ w 3 g3 28 ([.int .i64 0, .int .i64 0, .int .i64 0, .int .i64 0, (.slice none 0 0)]) ∧ Ow (kf cProd) 78 ρ w w0.heap.size 4 (.slice none 0 0) ([] : List Prod) ∧ Va ρ w 6 g6 28 ([.int .i64 x1.p, .int .i64 (w64 (a0.n + a1.n)), .int .i64 x1.m, .int .i64 x1.k, u3]) ∧ (c ≤ 0 → Ow (kf cProd) 78 ρ w w0.heap.size 5 u3 x1.ps)) (Rl := [fun c ρ w v => .agg ([.int .i64 a1.p, .int .i64 a1.n, .int .i64 a1.m, .int .i64 a1.k, va1]).toArray = v, fun c ρ w v => .agg ([.int .i64 a0.p, .int .i64 a0.n, .int .i64 a0.m, .int .i64 a0.k, va0]).toArray = v, fun c ρ w v => .agg ([.int .i64 x1.p, .int .i64 (w64 (a0.n + a1.n)), .int .i64 x1.m, .int .i64 x1.k, u3]).toArray = v, fun c ρ w v => ∃ u8, .agg ([.int .i64 x6.p, .int .i64 x6.n, .int .i64 x6.m, .int .i64 x6.k, u8]).toArray = v ∧ Ow (kf cProd) 78 ρ w w0.heap.size 5 u8 x6.ps, fun c ρ w v => .pointer (some ((⟨g1, 0, none⟩ : Addr).add (0 + 1))) = v, fun c ρ w v => .int .i64 a0.n = v]) hfL hS (by decide) rfl (by kernel_rfl) (by kernel_rfl) (wn rfl) rfl (r_fn en159 hf rfl) (spec_l02Put_ok (a0 := a0) (a1 := (⟨x1.p, w64 (a0.n + a1.n), x1.m, x1.k, x1.ps⟩ : Sch)) (by decide) hw h0 o5 hx7) (fun v w' hΦ => ?_) hK
        obtain ⟨ρ, hw, hA, hΦ⟩ := hΦ
        obtain ⟨u8, rfl, o5⟩ := hΦ
        replace o1 := o1.adv hA (by decide)
        replace o2 := o2.adv hA (by decide)
        replace o3 := o3.adv hA (by decide)
        replace o4 := o4.adv hA (by decide)
        replace o6 := o6.adv hA (by decide)
        refine ⟨_, hw, ⟨o1, o2, o3, o4, o6, (fun h => absurd h (by decide))⟩, ?_, ?_⟩
        · exact PassL.cons (fun h => h) <| PassL.cons (fun h => h) <| PassL.cons (fun h => h) <| PassL.here <| PassL.cons (fun h => h) <| PassL.cons (fun h => h) <| PassL.nil
        · exact ⟨_, rfl, o5⟩
      · intro c ρ w a hs hw hG hf hd K hK
        obtain ⟨o1, o2, o3, o4, o6, o5x⟩ := hG
        exact d_val (R := fun ρ w v => .pointer (some ((⟨g1, 0, none⟩ : Addr).add (0 + 1))) = v) hw (wn rfl) (r_fa fa28_1 hf rfl) rfl rfl hK
      · intro c ρ w a hs hw hG hf hd K hK
        obtain ⟨o1, o2, o3, o4, o6, o5x⟩ := hG
        obtain ⟨_, ht4, rfl⟩ := hd 4 (by kernel_rfl) (by kernel_rfl)
        replace hf := hf.more ht4
        exact d_val (R := fun ρ w v => .int .i64 a0.n = v) hw (wn rfl) (r_load_cell ty2 hf rfl (o1.cl.at_ 1 _ rfl)) rfl rfl hK
    · intro ρ w a hw hG hf hd
      obtain ⟨o1, o2, o3, o4, o6, o5x⟩ := hG
      replace hf : Fr 54 a [(3, .pointer (some ((⟨g1, 0, none⟩ : Addr).add 0))), (4, .pointer (some ((⟨g2, 0, none⟩ : Addr).add 0))), (6, .pointer (some ((⟨g3, 0, none⟩ : Addr).add 0))), (7, .pointer (some ((⟨g6, 0, none⟩ : Addr).add 0)))] := hf
      obtain ⟨_, ht, rfl⟩ := hd 0 (by decide) (by kernel_rfl)
      replace hf := hf.more ht
      obtain ⟨_, ht, ⟨u8, rfl, o5⟩⟩ := hd 3 (by decide) (by kernel_rfl)
      replace hf := hf.more ht
      obtain ⟨_, ht, rfl⟩ := hd 5 (by decide) (by kernel_rfl)
      replace hf := hf.more ht
      obtain ⟨x9, hx10, hF⟩ := of_bind hF
      refine st_mfn hf rfl rfl (by decide) (r_fn en159 hf rfl) (spec_l02Put_ok (a0 := a1) (a1 := x6) (by decide) hw h1 o5 hx10) fun a v w ρ hf hw hA hΦ => ?_
      obtain ⟨u11, rfl, o5⟩ := hΦ
      replace o1 := o1.adv hA (by decide)
      replace o2 := o2.adv hA (by decide)
      replace o3 := o3.adv hA (by decide)
      replace o4 := o4.adv hA (by decide)
      replace o6 := o6.adv hA (by decide)
      refine st_skip hf rfl rfl (r_store_w (cs' := [.int .i64 x9.p, .int .i64 x9.n, .int .i64 x9.m, .int .i64 x9.k, u11]) hw o3 (by decide) ty28 rfl rfl (one_sch o5.ro.one) hf rfl rfl rfl) fun a w hf hΦ => ?_
      obtain ⟨hw, hA, o3⟩ := hΦ
      replace o1 := o1.adv hA (by decide)
      replace o2 := o2.adv hA (by decide)
      replace o4 := o4.adv hA (by decide)
      replace o6 := o6.adv hA (by decide)
      replace o5 := o5.adv hA (by decide)
      refine c_nt ?_
      refine c_retc ?_
      obtain rfl := Option.some.inj hF
      refine r_block ?_
      refine r_then ?_
      refine c_ret hf (res_cell Try.results123 ty28 hf rfl o3.cl rfl) ?_
      exact ⟨_, rfl, hw.below, ⟨_, rfl, o5.out⟩⟩
  · refine c_iff hf rfl hb5 ?_
    refine c_seq ?_
    refine c_region ?_
    refine st hf rfl rfl (by decide) (r_eql hf rfl rfl) fun a hf => ?_
    refine st hf rfl rfl (by decide) (r_assign hf rfl) fun a hf => ?_
    refine c_nt ?_
    rcases of_ite hF with ⟨hb12, hF⟩ | ⟨hb12, hF⟩
    · refine c_ift hf rfl hb12 ?_
      refine c_seq ?_
      refine c_region ?_
      refine st hf rfl rfl (by decide) (r_fa fa28_2 hf rfl) fun a hf => ?_
      refine st hf rfl rfl (by decide) (r_load_cell ty2 hf rfl (o1.cl.at_ 2 _ rfl)) fun a hf => ?_
      refine st hf rfl rfl (by decide) (r_fa fa28_2 hf rfl) fun a hf => ?_
      refine st hf rfl rfl (by decide) (r_load_cell ty2 hf rfl (o2.cl.at_ 2 _ rfl)) fun a hf => ?_
      refine st hf rfl rfl (by decide) (r_add hf rfl rfl) fun a hf => ?_
      refine st hf rfl rfl (by decide) (r_fa fa28_2 hf rfl) fun a hf => ?_
      refine st_skip hf rfl rfl (r_store_c hw o6 (by decide) ty2 (Nat.le_of_ble_eq_true rfl) hf rfl rfl rfl rfl) fun a w hf hΦ => ?_
      obtain ⟨hw, hA, o6⟩ := hΦ
      replace o1 := o1.adv hA (by decide)
      replace o2 := o2.adv hA (by decide)
      replace o4 := o4.adv hA (by decide)
      replace o3 := o3.adv hA (by decide)
      replace o5 := o5.adv hA (by decide)
      replace o7 := o7.adv hA (by decide)
      replace o6 : Va ρ w 6 g6 28 ([.int .i64 x1.p, .int .i64 x1.n, .int .i64 (w64 (a0.m + a1.m)), .int .i64 x1.k, u3]) := o6
      refine c_nt ?_
      refine c_seq ?_
      obtain ⟨x13, hx14, hF⟩ := of_bind hF
      replace hf : Fr 54 a [(3, .pointer (some ((⟨g1, 0, none⟩ : Addr).add 0))), (4, .pointer (some ((⟨g2, 0, none⟩ : Addr).add 0))), (6, .pointer (some ((⟨g3, 0, none⟩ : Addr).add 0))), (7, .pointer (some ((⟨g6, 0, none⟩ : Addr).add 0)))] := hf.sub ⟨rfl, rfl, rfl, rfl, trivial⟩
      refine c_stage 6 [3] mixed (by kernel_rfl) (by kernel_rfl) (fun c ρ w => Va ρ w 1 g1 28 ([.int .i64 a0.p, .int .i64 a0.n, .int .i64 a0.m, .int .i64 a0.k, va0]) ∧ Va ρ w 2 g2 28 ([.int .i64 a1.p, .int .i64 a1.n, .int .i64 a1.m, .int .i64 a1.k, va1]) ∧ Va ρ w 3 g3 28 ([.int .i64 0, .int .i64 0, .int .i64 0, .int .i64 0, (.slice none 0 0)]) ∧ Ow (kf cProd) 78 ρ w w0.heap.size 4 (.slice none 0 0) ([] : List Prod) ∧ Va ρ w 6 g6 28 ([.int .i64 x1.p, .int .i64 x1.n, .int .i64 (w64 (a0.m + a1.m)), .int .i64 x1.k, u3]) ∧ (c ≤ 0 → Ow (kf cProd) 78 ρ w w0.heap.size 5 u3 x1.ps)) ?_ [fun c ρ w v => .agg ([.int .i64 a1.p, .int .i64 a1.n, .int .i64 a1.m, .int .i64 a1.k, va1]).toArray = v, fun c ρ w v => .agg ([.int .i64 a0.p, .int .i64 a0.n, .int .i64 a0.m, .int .i64 a0.k, va0]).toArray = v, fun c ρ w v => .agg ([.int .i64 x1.p, .int .i64 x1.n, .int .i64 (w64 (a0.m + a1.m)), .int .i64 x1.k, u3]).toArray = v, fun c ρ w v => ∃ u15, .agg ([.int .i64 x13.p, .int .i64 x13.n, .int .i64 x13.m, .int .i64 x13.k, u15]).toArray = v ∧ Ow (kf cProd) 78 ρ w w0.heap.size 5 u15 x13.ps, fun c ρ w v => .pointer (some ((⟨g1, 0, none⟩ : Addr).add (0 + 2))) = v, fun c ρ w v => .int .i64 a0.m = v] ?_ hw ⟨o1, o2, o3, o4, o6, (fun _ => o5)⟩ hf ?_ ?_
      · intro c ρ w ρ' w' hE hG
        obtain ⟨o1, o2, o3, o4, o6, o5x⟩ := hG
        exact ⟨o1.ext hE, o2.ext hE, o3.ext hE, o4.ext hE, o6.ext hE, (fun h => (o5x h).ext hE)⟩
      · exact LastsS.cons (fun _ _ _ _ _ _ _ h => h) <| LastsS.cons (fun _ _ _ _ _ _ _ h => h) <| LastsS.cons (fun _ _ _ _ _ _ _ h => h) <| LastsS.cons (fun c _ _ _ _ _ hE h => by obtain ⟨u15, h, o5⟩ := h; exact ⟨_, h, o5.ext hE⟩) <| LastsS.cons (fun _ _ _ _ _ _ _ h => h) <| LastsS.cons (fun _ _ _ _ _ _ _ h => h) <| LastsS.nil
      · refine StepsS.float rfl ?_ <| StepsS.float rfl ?_ <| StepsS.float rfl ?_ <| StepsS.main 0 rfl rfl ?_ <| StepsS.float rfl ?_ <| StepsS.float rfl ?_ <| StepsS.nil
        · intro c ρ w a hs hw hG hf hd K hK
          obtain ⟨o1, o2, o3, o4, o6, o5x⟩ := hG
          exact d_val (R := fun ρ w v => .agg ([.int .i64 a1.p, .int .i64 a1.n, .int .i64 a1.m, .int .i64 a1.k, va1]).toArray = v) hw (wn rfl) (r_load_agg ty28 hf rfl o2.cl rfl) rfl rfl hK
        · intro c ρ w a hs hw hG hf hd K hK
          obtain ⟨o1, o2, o3, o4, o6, o5x⟩ := hG
          have o5 := o5x (hs 0 (by decide) (by kernel_rfl))
          exact d_val (R := fun ρ w v => .agg ([.int .i64 a0.p, .int .i64 a0.n, .int .i64 a0.m, .int .i64 a0.k, va0]).toArray = v) hw (wn rfl) (r_load_agg ty28 hf rfl o1.cl rfl) rfl rfl hK
        · intro c ρ w a hs hw hG hf hd K hK
          obtain ⟨o1, o2, o3, o4, o6, o5x⟩ := hG
          have o5 := o5x (hs 0 (by decide) (by kernel_rfl))
          exact d_val (R := fun ρ w v => .agg ([.int .i64 x1.p, .int .i64 x1.n, .int .i64 (w64 (a0.m + a1.m)), .int .i64 x1.k, u3]).toArray = v) hw (wn rfl) (r_load_agg ty28 hf rfl o6.cl rfl) rfl rfl hK
        · intro ρ w a S hw hG hf hS hdep hSi K hK
          obtain ⟨o1, o2, o3, o4, o6, o5x⟩ := hG
          have hfL := hf
          have o5 := o5x (by decide)
          obtain ⟨_, ht1, rfl⟩ := hS 1 (by decide) (hdep 1 (by kernel_rfl)) (by kernel_rfl)
          replace hf := hf.more ht1
          obtain ⟨_, ht2, rfl⟩ := hS 2 (by decide) (hdep 2 (by kernel_rfl)) (by kernel_rfl)
          replace hf := hf.more ht2
          refine m_call (ms := [3]) (Γ := fun c ρ w => Va ρ w 1 g1 28 ([.int .i64 a0.p, .int .i64 a0.n, .int .i64 a0.m, .int .i64 a0.k, va0]) ∧ Va ρ w 2 g2 28 ([.int .i64 a1.p, .int .i64 a1.n, .int .i64 a1.m, .int .i64 a1.k, va1]) ∧ Va ρ w 3 g3 28 ([.int .i64 0, .int .i64 0, .int .i64 0, .int .i64 0, (.slice none 0 0)]) ∧ Ow (kf cProd) 78 ρ w w0.heap.size 4 (.slice none 0 0) ([] : List Prod) ∧ Va ρ w 6 g6 28 ([.int .i64 x1.p, .int .i64 x1.n, .int .i64 (w64 (a0.m + a1.m)), .int .i64 x1.k, u3]) ∧ (c ≤ 0 → Ow (kf cProd) 78 ρ w w0.heap.size 5 u3 x1.ps)) (Rl := [fun c ρ w v => .agg ([.int .i64 a1.p, .int .i64 a1.n, .int .i64 a1.m, .int .i64 a1.k, va1]).toArray = v, fun c ρ w v => .agg ([.int .i64 a0.p, .int .i64 a0.n, .int .i64 a0.m, .int .i64 a0.k, va0]).toArray = v, fun c ρ w v => .agg ([.int .i64 x1.p, .int .i64 x1.n, .int .i64 (w64 (a0.m + a1.m)), .int .i64 x1.k, u3]).toArray = v, fun c ρ w v => ∃ u15, .agg ([.int .i64 x13.p, .int .i64 x13.n, .int .i64 x13.m, .int .i64 x13.k, u15]).toArray = v ∧ Ow (kf cProd) 78 ρ w w0.heap.size 5 u15 x13.ps, fun c ρ w v => .pointer (some ((⟨g1, 0, none⟩ : Addr).add (0 + 2))) = v, fun c ρ w v => .int .i64 a0.m = v]) hfL hS (by decide) rfl (by kernel_rfl) (by kernel_rfl) (wn rfl) rfl (r_fn en159 hf rfl) (spec_l02Put_ok (a0 := a0) (a1 := (⟨x1.p, x1.n, w64 (a0.m + a1.m), x1.k, x1.ps⟩ : Sch)) (by decide) hw h0 o5 hx14) (fun v w' hΦ => ?_) hK
          obtain ⟨ρ, hw, hA, hΦ⟩ := hΦ
          obtain ⟨u15, rfl, o5⟩ := hΦ
          replace o1 := o1.adv hA (by decide)
          replace o2 := o2.adv hA (by decide)
          replace o3 := o3.adv hA (by decide)
          replace o4 := o4.adv hA (by decide)
          replace o6 := o6.adv hA (by decide)
          refine ⟨_, hw, ⟨o1, o2, o3, o4, o6, (fun h => absurd h (by decide))⟩, ?_, ?_⟩
          · exact PassL.cons (fun h => h) <| PassL.cons (fun h => h) <| PassL.cons (fun h => h) <| PassL.here <| PassL.cons (fun h => h) <| PassL.cons (fun h => h) <| PassL.nil
          · exact ⟨_, rfl, o5⟩
        · intro c ρ w a hs hw hG hf hd K hK
          obtain ⟨o1, o2, o3, o4, o6, o5x⟩ := hG
          exact d_val (R := fun ρ w v => .pointer (some ((⟨g1, 0, none⟩ : Addr).add (0 + 2))) = v) hw (wn rfl) (r_fa fa28_2 hf rfl) rfl rfl hK
        · intro c ρ w a hs hw hG hf hd K hK
          obtain ⟨o1, o2, o3, o4, o6, o5x⟩ := hG
          obtain ⟨_, ht4, rfl⟩ := hd 4 (by kernel_rfl) (by kernel_rfl)
          replace hf := hf.more ht4
          exact d_val (R := fun ρ w v => .int .i64 a0.m = v) hw (wn rfl) (r_load_cell ty2 hf rfl (o1.cl.at_ 2 _ rfl)) rfl rfl hK
      · intro ρ w a hw hG hf hd
        obtain ⟨o1, o2, o3, o4, o6, o5x⟩ := hG
        replace hf : Fr 54 a [(3, .pointer (some ((⟨g1, 0, none⟩ : Addr).add 0))), (4, .pointer (some ((⟨g2, 0, none⟩ : Addr).add 0))), (6, .pointer (some ((⟨g3, 0, none⟩ : Addr).add 0))), (7, .pointer (some ((⟨g6, 0, none⟩ : Addr).add 0)))] := hf
        obtain ⟨_, ht, rfl⟩ := hd 0 (by decide) (by kernel_rfl)
        replace hf := hf.more ht
        obtain ⟨_, ht, ⟨u15, rfl, o5⟩⟩ := hd 3 (by decide) (by kernel_rfl)
        replace hf := hf.more ht
        obtain ⟨_, ht, rfl⟩ := hd 5 (by decide) (by kernel_rfl)
        replace hf := hf.more ht
        obtain ⟨x16, hx17, hF⟩ := of_bind hF
        refine st_mfn hf rfl rfl (by decide) (r_fn en159 hf rfl) (spec_l02Put_ok (a0 := a1) (a1 := x13) (by decide) hw h1 o5 hx17) fun a v w ρ hf hw hA hΦ => ?_
        obtain ⟨u18, rfl, o5⟩ := hΦ
        replace o1 := o1.adv hA (by decide)
        replace o2 := o2.adv hA (by decide)
        replace o3 := o3.adv hA (by decide)
        replace o4 := o4.adv hA (by decide)
        replace o6 := o6.adv hA (by decide)
        refine st_skip hf rfl rfl (r_store_w (cs' := [.int .i64 x16.p, .int .i64 x16.n, .int .i64 x16.m, .int .i64 x16.k, u18]) hw o3 (by decide) ty28 rfl rfl (one_sch o5.ro.one) hf rfl rfl rfl) fun a w hf hΦ => ?_
        obtain ⟨hw, hA, o3⟩ := hΦ
        replace o1 := o1.adv hA (by decide)
        replace o2 := o2.adv hA (by decide)
        replace o4 := o4.adv hA (by decide)
        replace o6 := o6.adv hA (by decide)
        replace o5 := o5.adv hA (by decide)
        refine c_nt ?_
        refine c_retc ?_
        obtain rfl := Option.some.inj hF
        refine r_block ?_
        refine r_then ?_
        refine c_ret hf (res_cell Try.results123 ty28 hf rfl o3.cl rfl) ?_
        exact ⟨_, rfl, hw.below, ⟨_, rfl, o5.out⟩⟩
    · refine c_iff hf rfl hb12 ?_
      refine c_skip ?_
      refine n_block ?_
      refine n_then ?_
      refine c_seq ?_
      refine c_region ?_
      refine st hf rfl rfl (by decide) (r_fa fa28_3 hf rfl) fun a hf => ?_
      refine st hf rfl rfl (by decide) (r_load_cell ty2 hf rfl (o1.cl.at_ 3 _ rfl)) fun a hf => ?_
      refine st hf rfl rfl (by decide) (r_fa fa28_3 hf rfl) fun a hf => ?_
      refine st hf rfl rfl (by decide) (r_load_cell ty2 hf rfl (o2.cl.at_ 3 _ rfl)) fun a hf => ?_
      refine st hf rfl rfl (by decide) (r_add hf rfl rfl) fun a hf => ?_
      refine st hf rfl rfl (by decide) (r_fa fa28_3 hf rfl) fun a hf => ?_
      refine st_skip hf rfl rfl (r_store_c hw o6 (by decide) ty2 (Nat.le_of_ble_eq_true rfl) hf rfl rfl rfl rfl) fun a w hf hΦ => ?_
      obtain ⟨hw, hA, o6⟩ := hΦ
      replace o1 := o1.adv hA (by decide)
      replace o2 := o2.adv hA (by decide)
      replace o4 := o4.adv hA (by decide)
      replace o3 := o3.adv hA (by decide)
      replace o5 := o5.adv hA (by decide)
      replace o7 := o7.adv hA (by decide)
      replace o6 : Va ρ w 6 g6 28 ([.int .i64 x1.p, .int .i64 x1.n, .int .i64 x1.m, .int .i64 (w64 (a0.k + a1.k)), u3]) := o6
      refine c_nt ?_
      refine c_seq ?_
      obtain ⟨x19, hx20, hF⟩ := of_bind hF
      replace hf : Fr 54 a [(3, .pointer (some ((⟨g1, 0, none⟩ : Addr).add 0))), (4, .pointer (some ((⟨g2, 0, none⟩ : Addr).add 0))), (6, .pointer (some ((⟨g3, 0, none⟩ : Addr).add 0))), (7, .pointer (some ((⟨g6, 0, none⟩ : Addr).add 0)))] := hf.sub ⟨rfl, rfl, rfl, rfl, trivial⟩
      refine c_stage 6 [3] mixed (by kernel_rfl) (by kernel_rfl) (fun c ρ w => Va ρ w 1 g1 28 ([.int .i64 a0.p, .int .i64 a0.n, .int .i64 a0.m, .int .i64 a0.k, va0]) ∧ Va ρ w 2 g2 28 ([.int .i64 a1.p, .int .i64 a1.n, .int .i64 a1.m, .int .i64 a1.k, va1]) ∧ Va ρ w 3 g3 28 ([.int .i64 0, .int .i64 0, .int .i64 0, .int .i64 0, (.slice none 0 0)]) ∧ Ow (kf cProd) 78 ρ w w0.heap.size 4 (.slice none 0 0) ([] : List Prod) ∧ Va ρ w 6 g6 28 ([.int .i64 x1.p, .int .i64 x1.n, .int .i64 x1.m, .int .i64 (w64 (a0.k + a1.k)), u3]) ∧ (c ≤ 0 → Ow (kf cProd) 78 ρ w w0.heap.size 5 u3 x1.ps)) ?_ [fun c ρ w v => .agg ([.int .i64 a1.p, .int .i64 a1.n, .int .i64 a1.m, .int .i64 a1.k, va1]).toArray = v, fun c ρ w v => .agg ([.int .i64 a0.p, .int .i64 a0.n, .int .i64 a0.m, .int .i64 a0.k, va0]).toArray = v, fun c ρ w v => .agg ([.int .i64 x1.p, .int .i64 x1.n, .int .i64 x1.m, .int .i64 (w64 (a0.k + a1.k)), u3]).toArray = v, fun c ρ w v => ∃ u21, .agg ([.int .i64 x19.p, .int .i64 x19.n, .int .i64 x19.m, .int .i64 x19.k, u21]).toArray = v ∧ Ow (kf cProd) 78 ρ w w0.heap.size 5 u21 x19.ps, fun c ρ w v => .pointer (some ((⟨g1, 0, none⟩ : Addr).add (0 + 3))) = v, fun c ρ w v => .int .i64 a0.k = v] ?_ hw ⟨o1, o2, o3, o4, o6, (fun _ => o5)⟩ hf ?_ ?_
      · intro c ρ w ρ' w' hE hG
        obtain ⟨o1, o2, o3, o4, o6, o5x⟩ := hG
        exact ⟨o1.ext hE, o2.ext hE, o3.ext hE, o4.ext hE, o6.ext hE, (fun h => (o5x h).ext hE)⟩
      · exact LastsS.cons (fun _ _ _ _ _ _ _ h => h) <| LastsS.cons (fun _ _ _ _ _ _ _ h => h) <| LastsS.cons (fun _ _ _ _ _ _ _ h => h) <| LastsS.cons (fun c _ _ _ _ _ hE h => by obtain ⟨u21, h, o5⟩ := h; exact ⟨_, h, o5.ext hE⟩) <| LastsS.cons (fun _ _ _ _ _ _ _ h => h) <| LastsS.cons (fun _ _ _ _ _ _ _ h => h) <| LastsS.nil
      · refine StepsS.float rfl ?_ <| StepsS.float rfl ?_ <| StepsS.float rfl ?_ <| StepsS.main 0 rfl rfl ?_ <| StepsS.float rfl ?_ <| StepsS.float rfl ?_ <| StepsS.nil
        · intro c ρ w a hs hw hG hf hd K hK
          obtain ⟨o1, o2, o3, o4, o6, o5x⟩ := hG
          exact d_val (R := fun ρ w v => .agg ([.int .i64 a1.p, .int .i64 a1.n, .int .i64 a1.m, .int .i64 a1.k, va1]).toArray = v) hw (wn rfl) (r_load_agg ty28 hf rfl o2.cl rfl) rfl rfl hK
        · intro c ρ w a hs hw hG hf hd K hK
          obtain ⟨o1, o2, o3, o4, o6, o5x⟩ := hG
          have o5 := o5x (hs 0 (by decide) (by kernel_rfl))
          exact d_val (R := fun ρ w v => .agg ([.int .i64 a0.p, .int .i64 a0.n, .int .i64 a0.m, .int .i64 a0.k, va0]).toArray = v) hw (wn rfl) (r_load_agg ty28 hf rfl o1.cl rfl) rfl rfl hK
        · intro c ρ w a hs hw hG hf hd K hK
          obtain ⟨o1, o2, o3, o4, o6, o5x⟩ := hG
          have o5 := o5x (hs 0 (by decide) (by kernel_rfl))
          exact d_val (R := fun ρ w v => .agg ([.int .i64 x1.p, .int .i64 x1.n, .int .i64 x1.m, .int .i64 (w64 (a0.k + a1.k)), u3]).toArray = v) hw (wn rfl) (r_load_agg ty28 hf rfl o6.cl rfl) rfl rfl hK
        · intro ρ w a S hw hG hf hS hdep hSi K hK
          obtain ⟨o1, o2, o3, o4, o6, o5x⟩ := hG
          have hfL := hf
          have o5 := o5x (by decide)
          obtain ⟨_, ht1, rfl⟩ := hS 1 (by decide) (hdep 1 (by kernel_rfl)) (by kernel_rfl)
          replace hf := hf.more ht1
          obtain ⟨_, ht2, rfl⟩ := hS 2 (by decide) (hdep 2 (by kernel_rfl)) (by kernel_rfl)
          replace hf := hf.more ht2
          refine m_call (ms := [3]) (Γ := fun c ρ w => Va ρ w 1 g1 28 ([.int .i64 a0.p, .int .i64 a0.n, .int .i64 a0.m, .int .i64 a0.k, va0]) ∧ Va ρ w 2 g2 28 ([.int .i64 a1.p, .int .i64 a1.n, .int .i64 a1.m, .int .i64 a1.k, va1]) ∧ Va ρ w 3 g3 28 ([.int .i64 0, .int .i64 0, .int .i64 0, .int .i64 0, (.slice none 0 0)]) ∧ Ow (kf cProd) 78 ρ w w0.heap.size 4 (.slice none 0 0) ([] : List Prod) ∧ Va ρ w 6 g6 28 ([.int .i64 x1.p, .int .i64 x1.n, .int .i64 x1.m, .int .i64 (w64 (a0.k + a1.k)), u3]) ∧ (c ≤ 0 → Ow (kf cProd) 78 ρ w w0.heap.size 5 u3 x1.ps)) (Rl := [fun c ρ w v => .agg ([.int .i64 a1.p, .int .i64 a1.n, .int .i64 a1.m, .int .i64 a1.k, va1]).toArray = v, fun c ρ w v => .agg ([.int .i64 a0.p, .int .i64 a0.n, .int .i64 a0.m, .int .i64 a0.k, va0]).toArray = v, fun c ρ w v => .agg ([.int .i64 x1.p, .int .i64 x1.n, .int .i64 x1.m, .int .i64 (w64 (a0.k + a1.k)), u3]).toArray = v, fun c ρ w v => ∃ u21, .agg ([.int .i64 x19.p, .int .i64 x19.n, .int .i64 x19.m, .int .i64 x19.k, u21]).toArray = v ∧ Ow (kf cProd) 78 ρ w w0.heap.size 5 u21 x19.ps, fun c ρ w v => .pointer (some ((⟨g1, 0, none⟩ : Addr).add (0 + 3))) = v, fun c ρ w v => .int .i64 a0.k = v]) hfL hS (by decide) rfl (by kernel_rfl) (by kernel_rfl) (wn rfl) rfl (r_fn en159 hf rfl) (spec_l02Put_ok (a0 := a0) (a1 := (⟨x1.p, x1.n, x1.m, w64 (a0.k + a1.k), x1.ps⟩ : Sch)) (by decide) hw h0 o5 hx20) (fun v w' hΦ => ?_) hK
          obtain ⟨ρ, hw, hA, hΦ⟩ := hΦ
          obtain ⟨u21, rfl, o5⟩ := hΦ
          replace o1 := o1.adv hA (by decide)
          replace o2 := o2.adv hA (by decide)
          replace o3 := o3.adv hA (by decide)
          replace o4 := o4.adv hA (by decide)
          replace o6 := o6.adv hA (by decide)
          refine ⟨_, hw, ⟨o1, o2, o3, o4, o6, (fun h => absurd h (by decide))⟩, ?_, ?_⟩
          · exact PassL.cons (fun h => h) <| PassL.cons (fun h => h) <| PassL.cons (fun h => h) <| PassL.here <| PassL.cons (fun h => h) <| PassL.cons (fun h => h) <| PassL.nil
          · exact ⟨_, rfl, o5⟩
        · intro c ρ w a hs hw hG hf hd K hK
          obtain ⟨o1, o2, o3, o4, o6, o5x⟩ := hG
          exact d_val (R := fun ρ w v => .pointer (some ((⟨g1, 0, none⟩ : Addr).add (0 + 3))) = v) hw (wn rfl) (r_fa fa28_3 hf rfl) rfl rfl hK
        · intro c ρ w a hs hw hG hf hd K hK
          obtain ⟨o1, o2, o3, o4, o6, o5x⟩ := hG
          obtain ⟨_, ht4, rfl⟩ := hd 4 (by kernel_rfl) (by kernel_rfl)
          replace hf := hf.more ht4
          exact d_val (R := fun ρ w v => .int .i64 a0.k = v) hw (wn rfl) (r_load_cell ty2 hf rfl (o1.cl.at_ 3 _ rfl)) rfl rfl hK
      · intro ρ w a hw hG hf hd
        obtain ⟨o1, o2, o3, o4, o6, o5x⟩ := hG
        replace hf : Fr 54 a [(3, .pointer (some ((⟨g1, 0, none⟩ : Addr).add 0))), (4, .pointer (some ((⟨g2, 0, none⟩ : Addr).add 0))), (6, .pointer (some ((⟨g3, 0, none⟩ : Addr).add 0))), (7, .pointer (some ((⟨g6, 0, none⟩ : Addr).add 0)))] := hf
        obtain ⟨_, ht, rfl⟩ := hd 0 (by decide) (by kernel_rfl)
        replace hf := hf.more ht
        obtain ⟨_, ht, ⟨u21, rfl, o5⟩⟩ := hd 3 (by decide) (by kernel_rfl)
        replace hf := hf.more ht
        obtain ⟨_, ht, rfl⟩ := hd 5 (by decide) (by kernel_rfl)
        replace hf := hf.more ht
        obtain ⟨x22, hx23, hF⟩ := of_bind hF
        refine st_mfn hf rfl rfl (by decide) (r_fn en159 hf rfl) (spec_l02Put_ok (a0 := a1) (a1 := x19) (by decide) hw h1 o5 hx23) fun a v w ρ hf hw hA hΦ => ?_
        obtain ⟨u24, rfl, o5⟩ := hΦ
        replace o1 := o1.adv hA (by decide)
        replace o2 := o2.adv hA (by decide)
        replace o3 := o3.adv hA (by decide)
        replace o4 := o4.adv hA (by decide)
        replace o6 := o6.adv hA (by decide)
        refine st_skip hf rfl rfl (r_store_w (cs' := [.int .i64 x22.p, .int .i64 x22.n, .int .i64 x22.m, .int .i64 x22.k, u24]) hw o3 (by decide) ty28 rfl rfl (one_sch o5.ro.one) hf rfl rfl rfl) fun a w hf hΦ => ?_
        obtain ⟨hw, hA, o3⟩ := hΦ
        replace o1 := o1.adv hA (by decide)
        replace o2 := o2.adv hA (by decide)
        replace o4 := o4.adv hA (by decide)
        replace o6 := o6.adv hA (by decide)
        replace o5 := o5.adv hA (by decide)
        refine c_nt ?_
        refine c_retc ?_
        obtain rfl := Option.some.inj hF
        refine c_ret hf (res_cell Try.results123 ty28 hf rfl o3.cl rfl) ?_
        exact ⟨_, rfl, hw.below, ⟨_, rfl, o5.out⟩⟩
/-! f107 -/
noncomputable def spec_l01Prime (a0 : Int) : Option Bool :=
  (if (decide (a0 = 2)) = true then (some true) else (if (decide (a0 = 3)) = true then (some true) else (some (decide (a0 = 5))))).bind fun (s2 : Bool) => some (s2)
theorem spec_l01Prime_ok {w0 : World} {a0 : Int}   {r : Bool} (hF : spec_l01Prime a0 = some r) :
    Calls Try.prog 107 [.int .i64 a0].toArray w0 fun e w => ∃ v, e = .returned v ∧ Below w0.heap.size w0 w ∧ .bool r = v := by
  refine calls_of (k := 13) Try.func107 rfl rfl (Nat.le_of_ble_eq_true rfl) fun a hf => ?_
  replace hf : Fr 13 a [(0, .int .i64 a0)] := hf
  refine c_start fun w ρ hw => ?_
  unfold spec_l01Prime at hF
  refine c_seq ?_
  refine c_region ?_
  refine st hf rfl rfl (by decide) (r_assign hf rfl) fun a hf => ?_
  refine c_nt ?_
  refine c_seq ?_
  obtain ⟨s2, hT1, hG1⟩ := of_bind hF
  clear hF
  refine c_meet (fun (s : Bool) a w => ∃ ρ, Wd w0 ρ w ∧ Fr 13 a [(2, .bool s)]) s2 ?_ ?_
  · have hF := hT1
    refine c_region ?_
    refine st hf rfl rfl (by decide) (r_move hf rfl) fun a hf => ?_
    refine st hf rfl rfl (by decide) (r_eql hf rfl rfl) fun a hf => ?_
    refine st hf rfl rfl (by decide) (r_move hf rfl) fun a hf => ?_
    rcases of_ite hF with ⟨hb3, hF⟩ | ⟨hb3, hF⟩
    · refine st_no (b := true) hf rfl rfl rfl hb3 rfl (by decide) fun a hf => ?_
      refine st_no (b := true) hf rfl rfl rfl hb3 rfl (by decide) fun a hf => ?_
      refine st hf rfl rfl (by decide) (r_pick (b := true) hf rfl hb3 rfl) fun a hf => ?_
      refine st hf rfl rfl (by decide) (r_move hf rfl) fun a hf => ?_
      refine st_no (b := true) hf rfl rfl rfl rfl rfl (by decide) fun a hf => ?_
      refine st_no (b := true) hf rfl rfl rfl rfl rfl (by decide) fun a hf => ?_
      refine st hf rfl rfl (by decide) (r_pick (b := true) hf rfl rfl rfl) fun a hf => ?_
      refine st hf rfl rfl (by decide) (r_assign hf rfl) fun a hf => ?_
      refine c_nil ⟨rfl, ?_⟩
      obtain rfl := Option.some.inj hF
      exact ⟨_, hw, hf.sub ⟨rfl, trivial⟩⟩
    · refine st_g (b := false) hf rfl rfl rfl hb3 rfl (by decide) (r_move hf rfl) fun a hf => ?_
      refine st_g (b := false) hf rfl rfl rfl hb3 rfl (by decide) (r_eql hf rfl rfl) fun a hf => ?_
      refine st hf rfl rfl (by decide) (r_pick (b := false) hf rfl hb3 rfl) fun a hf => ?_
      refine st hf rfl rfl (by decide) (r_move hf rfl) fun a hf => ?_
      rcases of_ite hF with ⟨hb4, hF⟩ | ⟨hb4, hF⟩
      · refine st_no (b := true) hf rfl rfl rfl hb4 rfl (by decide) fun a hf => ?_
        refine st_no (b := true) hf rfl rfl rfl hb4 rfl (by decide) fun a hf => ?_
        refine st hf rfl rfl (by decide) (r_pick (b := true) hf rfl hb4 rfl) fun a hf => ?_
        refine st hf rfl rfl (by decide) (r_assign hf rfl) fun a hf => ?_
        refine c_nil ⟨rfl, ?_⟩
        obtain rfl := Option.some.inj hF
        exact ⟨_, hw, hf.sub ⟨rfl, trivial⟩⟩
      · refine st_g (b := false) hf rfl rfl rfl hb4 rfl (by decide) (r_move hf rfl) fun a hf => ?_
        refine st_g (b := false) hf rfl rfl rfl hb4 rfl (by decide) (r_eql hf rfl rfl) fun a hf => ?_
        refine st hf rfl rfl (by decide) (r_pick (b := false) hf rfl hb4 rfl) fun a hf => ?_
        refine st hf rfl rfl (by decide) (r_assign hf rfl) fun a hf => ?_
        refine c_nil ⟨rfl, ?_⟩
        obtain rfl := Option.some.inj hF
        exact ⟨_, hw, hf.sub ⟨rfl, trivial⟩⟩
  · rintro a w ⟨ρ, hw, hf⟩
    replace hf : Fr 13 a [(2, .bool s2)] := hf
    have hF := hG1
    refine n_then ?_
    refine c_retc ?_
    obtain rfl := Option.some.inj hF
    refine c_ret hf (res_tmp Try.results107 hf rfl) ?_
    exact ⟨_, rfl, hw.below, rfl⟩
/-! f80 -/
noncomputable def spec_l01In (a0 : Int) (a1 : Int) (a2 : Int) : Option Bool :=
  (if (decide (a1 ≤ a0)) = true then (some (decide (a0 ≤ a2))) else (some false)).bind fun (s2 : Bool) => some (s2)
theorem spec_l01In_ok {w0 : World} {a0 : Int} {a1 : Int} {a2 : Int}   {r : Bool} (hF : spec_l01In a0 a1 a2 = some r) :
    Calls Try.prog 80 [.int .i64 a0, .int .i64 a1, .int .i64 a2].toArray w0 fun e w => ∃ v, e = .returned v ∧ Below w0.heap.size w0 w ∧ .bool r = v := by
  refine calls_of (k := 15) Try.func80 rfl rfl (Nat.le_of_ble_eq_true rfl) fun a hf => ?_
  replace hf : Fr 15 a [(0, .int .i64 a0), (1, .int .i64 a1), (2, .int .i64 a2)] := hf
  refine c_start fun w ρ hw => ?_
  unfold spec_l01In at hF
  refine c_seq ?_
  refine c_region ?_
  refine st hf rfl rfl (by decide) (r_assign hf rfl) fun a hf => ?_
  refine c_nt ?_
  refine c_seq ?_
  obtain ⟨s2, hT1, hG1⟩ := of_bind hF
  clear hF
  refine c_meet (fun (s : Bool) a w => ∃ ρ, Wd w0 ρ w ∧ Fr 15 a [(6, .bool s)]) s2 ?_ ?_
  · have hF := hT1
    refine c_region ?_
    refine st hf rfl rfl (by decide) (r_move hf rfl) fun a hf => ?_
    refine st hf rfl rfl (by decide) (r_move hf rfl) fun a hf => ?_
    refine st hf rfl rfl (by decide) (r_geq hf rfl rfl) fun a hf => ?_
    refine st hf rfl rfl (by decide) (r_move hf rfl) fun a hf => ?_
    rcases of_ite hF with ⟨hb3, hF⟩ | ⟨hb3, hF⟩
    · refine st_g (b := true) hf rfl rfl rfl hb3 rfl (by decide) (r_move hf rfl) fun a hf => ?_
      refine st_g (b := true) hf rfl rfl rfl hb3 rfl (by decide) (r_move hf rfl) fun a hf => ?_
      refine st_g (b := true) hf rfl rfl rfl hb3 rfl (by decide) (r_leq hf rfl rfl) fun a hf => ?_
      refine st hf rfl rfl (by decide) (r_pick (b := true) hf rfl hb3 rfl) fun a hf => ?_
      refine st hf rfl rfl (by decide) (r_assign hf rfl) fun a hf => ?_
      refine c_nil ⟨rfl, ?_⟩
      obtain rfl := Option.some.inj hF
      exact ⟨_, hw, hf.sub ⟨rfl, trivial⟩⟩
    · refine st_no (b := false) hf rfl rfl rfl hb3 rfl (by decide) fun a hf => ?_
      refine st_no (b := false) hf rfl rfl rfl hb3 rfl (by decide) fun a hf => ?_
      refine st_no (b := false) hf rfl rfl rfl hb3 rfl (by decide) fun a hf => ?_
      refine st hf rfl rfl (by decide) (r_pick (b := false) hf rfl hb3 rfl) fun a hf => ?_
      refine st hf rfl rfl (by decide) (r_assign hf rfl) fun a hf => ?_
      refine c_nil ⟨rfl, ?_⟩
      obtain rfl := Option.some.inj hF
      exact ⟨_, hw, hf.sub ⟨rfl, trivial⟩⟩
  · rintro a w ⟨ρ, hw, hf⟩
    replace hf : Fr 15 a [(6, .bool s2)] := hf
    have hF := hG1
    refine n_then ?_
    refine c_retc ?_
    obtain rfl := Option.some.inj hF
    refine c_ret hf (res_tmp Try.results80 hf rfl) ?_
    exact ⟨_, rfl, hw.below, rfl⟩
/-! f127 -/
noncomputable def spec_l01Sizes (a0 : Int) (a1 : Int) (a2 : Int) (a3 : Int) : Option Bool :=
  ((spec_l01Prime a0).bind fun x3 => if x3 = true then ((spec_l01In a1 1 3).bind fun x6 => if x6 = true then ((spec_l01In a2 1 3).bind fun x9 => if x9 = true then ((spec_l01In a3 1 3).bind fun x12 => some x12) else (some false)) else (some false)) else (some false)).bind fun (s2 : Bool) => some (s2)
theorem spec_l01Sizes_ok {w0 : World} {a0 : Int} {a1 : Int} {a2 : Int} {a3 : Int}   {r : Bool} (hF : spec_l01Sizes a0 a1 a2 a3 = some r) :
    Calls Try.prog 127 [.int .i64 a0, .int .i64 a1, .int .i64 a2, .int .i64 a3].toArray w0 fun e w => ∃ v, e = .returned v ∧ Below w0.heap.size w0 w ∧ .bool r = v := by
  refine calls_of (k := 23) Try.func127 rfl rfl (Nat.le_of_ble_eq_true rfl) fun a hf => ?_
  replace hf : Fr 23 a [(0, .int .i64 a0), (1, .int .i64 a1), (2, .int .i64 a2), (3, .int .i64 a3)] := hf
  refine c_start fun w ρ hw => ?_
  unfold spec_l01Sizes at hF
  refine c_seq ?_
  refine c_region ?_
  refine st hf rfl rfl (by decide) (r_assign hf rfl) fun a hf => ?_
  refine c_nt ?_
  refine c_seq ?_
  obtain ⟨s2, hT1, hG1⟩ := of_bind hF
  clear hF
  refine c_meet (fun (s : Bool) a w => ∃ ρ, Wd w0 ρ w ∧ Fr 23 a [(8, .bool s)]) s2 ?_ ?_
  · have hF := hT1
    refine c_region ?_
    refine st hf rfl rfl (by decide) (r_move hf rfl) fun a hf => ?_
    obtain ⟨x3, hx4, hF⟩ := of_bind hF
    refine st_fn 1 hw hf rfl rfl (by decide) (r_fn en107 hf rfl) (spec_l01Prime_ok  hx4) fun a v w ρ hf hw hE hN hΦ => ?_
    obtain rfl := hΦ
    refine st hf rfl rfl (by decide) (r_move hf rfl) fun a hf => ?_
    rcases of_ite hF with ⟨hb5, hF⟩ | ⟨hb5, hF⟩
    · refine st_g (b := true) hf rfl rfl rfl hb5 rfl (by decide) (r_move hf rfl) fun a hf => ?_
      obtain ⟨x6, hx7, hF⟩ := of_bind hF
      refine st_gfn (b := true) 2 hw hf rfl rfl rfl hb5 rfl (by decide) (r_fn en80 hf rfl) (spec_l01In_ok  hx7) fun a v w ρ hf hw hE hN hΦ => ?_
      obtain rfl := hΦ
      refine st hf rfl rfl (by decide) (r_pick (b := true) hf rfl hb5 rfl) fun a hf => ?_
      refine st hf rfl rfl (by decide) (r_move hf rfl) fun a hf => ?_
      rcases of_ite hF with ⟨hb8, hF⟩ | ⟨hb8, hF⟩
      · refine st_g (b := true) hf rfl rfl rfl hb8 rfl (by decide) (r_move hf rfl) fun a hf => ?_
        obtain ⟨x9, hx10, hF⟩ := of_bind hF
        refine st_gfn (b := true) 3 hw hf rfl rfl rfl hb8 rfl (by decide) (r_fn en80 hf rfl) (spec_l01In_ok  hx10) fun a v w ρ hf hw hE hN hΦ => ?_
        obtain rfl := hΦ
        refine st hf rfl rfl (by decide) (r_pick (b := true) hf rfl hb8 rfl) fun a hf => ?_
        refine st hf rfl rfl (by decide) (r_move hf rfl) fun a hf => ?_
        rcases of_ite hF with ⟨hb11, hF⟩ | ⟨hb11, hF⟩
        · refine st_g (b := true) hf rfl rfl rfl hb11 rfl (by decide) (r_move hf rfl) fun a hf => ?_
          obtain ⟨x12, hx13, hF⟩ := of_bind hF
          refine st_gfn (b := true) 4 hw hf rfl rfl rfl hb11 rfl (by decide) (r_fn en80 hf rfl) (spec_l01In_ok  hx13) fun a v w ρ hf hw hE hN hΦ => ?_
          obtain rfl := hΦ
          refine st hf rfl rfl (by decide) (r_pick (b := true) hf rfl hb11 rfl) fun a hf => ?_
          refine st hf rfl rfl (by decide) (r_assign hf rfl) fun a hf => ?_
          refine c_nil ⟨rfl, ?_⟩
          obtain rfl := Option.some.inj hF
          exact ⟨_, hw, hf.sub ⟨rfl, trivial⟩⟩
        · refine st_no (b := false) hf rfl rfl rfl hb11 rfl (by decide) fun a hf => ?_
          refine st_no (b := false) hf rfl rfl rfl hb11 rfl (by decide) fun a hf => ?_
          refine st hf rfl rfl (by decide) (r_pick (b := false) hf rfl hb11 rfl) fun a hf => ?_
          refine st hf rfl rfl (by decide) (r_assign hf rfl) fun a hf => ?_
          refine c_nil ⟨rfl, ?_⟩
          obtain rfl := Option.some.inj hF
          exact ⟨_, hw, hf.sub ⟨rfl, trivial⟩⟩
      · refine st_no (b := false) hf rfl rfl rfl hb8 rfl (by decide) fun a hf => ?_
        refine st_no (b := false) hf rfl rfl rfl hb8 rfl (by decide) fun a hf => ?_
        refine st hf rfl rfl (by decide) (r_pick (b := false) hf rfl hb8 rfl) fun a hf => ?_
        refine st hf rfl rfl (by decide) (r_move hf rfl) fun a hf => ?_
        refine st_no (b := false) hf rfl rfl rfl rfl rfl (by decide) fun a hf => ?_
        refine st_no (b := false) hf rfl rfl rfl rfl rfl (by decide) fun a hf => ?_
        refine st hf rfl rfl (by decide) (r_pick (b := false) hf rfl rfl rfl) fun a hf => ?_
        refine st hf rfl rfl (by decide) (r_assign hf rfl) fun a hf => ?_
        refine c_nil ⟨rfl, ?_⟩
        obtain rfl := Option.some.inj hF
        exact ⟨_, hw, hf.sub ⟨rfl, trivial⟩⟩
    · refine st_no (b := false) hf rfl rfl rfl hb5 rfl (by decide) fun a hf => ?_
      refine st_no (b := false) hf rfl rfl rfl hb5 rfl (by decide) fun a hf => ?_
      refine st hf rfl rfl (by decide) (r_pick (b := false) hf rfl hb5 rfl) fun a hf => ?_
      refine st hf rfl rfl (by decide) (r_move hf rfl) fun a hf => ?_
      refine st_no (b := false) hf rfl rfl rfl rfl rfl (by decide) fun a hf => ?_
      refine st_no (b := false) hf rfl rfl rfl rfl rfl (by decide) fun a hf => ?_
      refine st hf rfl rfl (by decide) (r_pick (b := false) hf rfl rfl rfl) fun a hf => ?_
      refine st hf rfl rfl (by decide) (r_move hf rfl) fun a hf => ?_
      refine st_no (b := false) hf rfl rfl rfl rfl rfl (by decide) fun a hf => ?_
      refine st_no (b := false) hf rfl rfl rfl rfl rfl (by decide) fun a hf => ?_
      refine st hf rfl rfl (by decide) (r_pick (b := false) hf rfl rfl rfl) fun a hf => ?_
      refine st hf rfl rfl (by decide) (r_assign hf rfl) fun a hf => ?_
      refine c_nil ⟨rfl, ?_⟩
      obtain rfl := Option.some.inj hF
      exact ⟨_, hw, hf.sub ⟨rfl, trivial⟩⟩
  · rintro a w ⟨ρ, hw, hf⟩
    replace hf : Fr 23 a [(8, .bool s2)] := hf
    have hF := hG1
    refine n_then ?_
    refine c_retc ?_
    obtain rfl := Option.some.inj hF
    refine c_ret hf (res_tmp Try.results127 hf rfl) ?_
    exact ⟨_, rfl, hw.below, rfl⟩
/-! f134 -/
noncomputable def spec_l01Lengths (a0 : Sch) : Option (Int × Int × Int) :=
  some ((w64 (a0.n * a0.m), w64 (a0.m * a0.k), w64 (a0.n * a0.k)))
theorem spec_l01Lengths_ok {w0 : World} {a0 : Sch} {va0 : Value} (h0 : Ro (kf cProd) w0 va0 a0.ps) {r : Int × Int × Int} (hF : spec_l01Lengths a0 = some r) :
    Calls Try.prog 134 [.agg ([.int .i64 a0.p, .int .i64 a0.n, .int .i64 a0.m, .int .i64 a0.k, va0]).toArray].toArray w0 fun e w => ∃ v, e = .returned v ∧ Below w0.heap.size w0 w ∧ .tuple #[.int .i64 r.1, .int .i64 r.2.1, .int .i64 r.2.2] = v := by
  refine calls_of (k := 20) Try.func134 rfl rfl (Nat.le_of_ble_eq_true rfl) fun a hf => ?_
  replace hf : Fr 20 a [(0, .agg ([.int .i64 a0.p, .int .i64 a0.n, .int .i64 a0.m, .int .i64 a0.k, va0]).toArray)] := hf
  refine c_start fun w ρ hw => ?_
  unfold spec_l01Lengths at hF
  refine c_seq ?_
  refine c_region ?_
  refine st_ex hf rfl rfl (by decide) (r_box (cs := [.int .i64 a0.p, .int .i64 a0.n, .int .i64 a0.m, .int .i64 a0.k, va0]) 1 hw hf rfl rfl) fun a v w hf hΦ => ?_
  obtain ⟨g1, ρ, rfl, hw, hE, o1⟩ := hΦ
  refine st hf rfl rfl (by decide) (r_assign hf rfl) fun a hf => ?_
  refine st hf rfl rfl (by decide) (r_assign hf rfl) fun a hf => ?_
  refine st hf rfl rfl (by decide) (r_assign hf rfl) fun a hf => ?_
  refine c_nt ?_
  refine c_seq ?_
  replace hf : Fr 20 a [(1, .pointer (some ((⟨g1, 0, none⟩ : Addr).add 0)))] := hf.sub ⟨rfl, trivial⟩
  refine c_drawL (h := 17) mixed (by kernel_rfl) (by kernel_rfl) (fun ρ w => Va ρ w 1 g1 28 ([.int .i64 a0.p, .int .i64 a0.n, .int .i64 a0.m, .int .i64 a0.k, va0])) ?_ [fun ρ w v => .pointer (some ((⟨g1, 0, none⟩ : Addr).add (0 + 1))) = v, fun ρ w v => .int .i64 a0.n = v, fun ρ w v => .pointer (some ((⟨g1, 0, none⟩ : Addr).add (0 + 2))) = v, fun ρ w v => .int .i64 a0.m = v, fun ρ w v => .int .i64 (w64 (a0.n * a0.m)) = v, fun ρ w v => .pointer (some ((⟨g1, 0, none⟩ : Addr).add (0 + 2))) = v, fun ρ w v => .int .i64 a0.m = v, fun ρ w v => .pointer (some ((⟨g1, 0, none⟩ : Addr).add (0 + 3))) = v, fun ρ w v => .int .i64 a0.k = v, fun ρ w v => .int .i64 (w64 (a0.m * a0.k)) = v, fun ρ w v => .pointer (some ((⟨g1, 0, none⟩ : Addr).add (0 + 1))) = v, fun ρ w v => .int .i64 a0.n = v, fun ρ w v => .pointer (some ((⟨g1, 0, none⟩ : Addr).add (0 + 3))) = v, fun ρ w v => .int .i64 a0.k = v, fun ρ w v => .int .i64 (w64 (a0.n * a0.k)) = v, fun ρ w v => .int .i64 (w64 (a0.n * a0.m)) = v, fun ρ w v => .int .i64 (w64 (a0.m * a0.k)) = v] ?_ hw o1 hf ?_ ?_
  · intro ρ w ρ' w' hE hG
    have o1 : Va ρ w 1 g1 28 ([.int .i64 a0.p, .int .i64 a0.n, .int .i64 a0.m, .int .i64 a0.k, va0]) := hG
    exact o1.ext hE
  · exact LastsL.cons (fun _ _ _ _ _ _ h => h) <| LastsL.cons (fun _ _ _ _ _ _ h => h) <| LastsL.cons (fun _ _ _ _ _ _ h => h) <| LastsL.cons (fun _ _ _ _ _ _ h => h) <| LastsL.cons (fun _ _ _ _ _ _ h => h) <| LastsL.cons (fun _ _ _ _ _ _ h => h) <| LastsL.cons (fun _ _ _ _ _ _ h => h) <| LastsL.cons (fun _ _ _ _ _ _ h => h) <| LastsL.cons (fun _ _ _ _ _ _ h => h) <| LastsL.cons (fun _ _ _ _ _ _ h => h) <| LastsL.cons (fun _ _ _ _ _ _ h => h) <| LastsL.cons (fun _ _ _ _ _ _ h => h) <| LastsL.cons (fun _ _ _ _ _ _ h => h) <| LastsL.cons (fun _ _ _ _ _ _ h => h) <| LastsL.cons (fun _ _ _ _ _ _ h => h) <| LastsL.cons (fun _ _ _ _ _ _ h => h) <| LastsL.cons (fun _ _ _ _ _ _ h => h) <| LastsL.nil
  · refine StepsB.cons ?_ <| StepsB.cons ?_ <| StepsB.cons ?_ <| StepsB.cons ?_ <| StepsB.cons ?_ <| StepsB.cons ?_ <| StepsB.cons ?_ <| StepsB.cons ?_ <| StepsB.cons ?_ <| StepsB.cons ?_ <| StepsB.cons ?_ <| StepsB.cons ?_ <| StepsB.cons ?_ <| StepsB.cons ?_ <| StepsB.cons ?_ <| StepsB.cons ?_ <| StepsB.cons ?_ <| StepsB.nil
    · intro ρ w a hw hG hf hd K hK
      have o1 : Va ρ w 1 g1 28 ([.int .i64 a0.p, .int .i64 a0.n, .int .i64 a0.m, .int .i64 a0.k, va0]) := hG
      exact d_val (R := fun ρ w v => .pointer (some ((⟨g1, 0, none⟩ : Addr).add (0 + 1))) = v) hw (wn rfl) (r_fa fa28_1 hf rfl) rfl rfl hK
    · intro ρ w a hw hG hf hd K hK
      have o1 : Va ρ w 1 g1 28 ([.int .i64 a0.p, .int .i64 a0.n, .int .i64 a0.m, .int .i64 a0.k, va0]) := hG
      obtain ⟨_, ht, rfl⟩ := hd 0 (by kernel_rfl)
      replace hf := hf.more ht
      exact d_val (R := fun ρ w v => .int .i64 a0.n = v) hw (wn rfl) (r_load_cell ty2 hf rfl (o1.cl.at_ 1 _ rfl)) rfl rfl hK
    · intro ρ w a hw hG hf hd K hK
      have o1 : Va ρ w 1 g1 28 ([.int .i64 a0.p, .int .i64 a0.n, .int .i64 a0.m, .int .i64 a0.k, va0]) := hG
      exact d_val (R := fun ρ w v => .pointer (some ((⟨g1, 0, none⟩ : Addr).add (0 + 2))) = v) hw (wn rfl) (r_fa fa28_2 hf rfl) rfl rfl hK
    · intro ρ w a hw hG hf hd K hK
      have o1 : Va ρ w 1 g1 28 ([.int .i64 a0.p, .int .i64 a0.n, .int .i64 a0.m, .int .i64 a0.k, va0]) := hG
      obtain ⟨_, ht, rfl⟩ := hd 2 (by kernel_rfl)
      replace hf := hf.more ht
      exact d_val (R := fun ρ w v => .int .i64 a0.m = v) hw (wn rfl) (r_load_cell ty2 hf rfl (o1.cl.at_ 2 _ rfl)) rfl rfl hK
    · intro ρ w a hw hG hf hd K hK
      have o1 : Va ρ w 1 g1 28 ([.int .i64 a0.p, .int .i64 a0.n, .int .i64 a0.m, .int .i64 a0.k, va0]) := hG
      obtain ⟨_, ht, rfl⟩ := hd 1 (by kernel_rfl)
      replace hf := hf.more ht
      obtain ⟨_, ht, rfl⟩ := hd 3 (by kernel_rfl)
      replace hf := hf.more ht
      exact d_val (R := fun ρ w v => .int .i64 (w64 (a0.n * a0.m)) = v) hw (wn rfl) (r_mul hf rfl rfl) rfl rfl hK
    · intro ρ w a hw hG hf hd K hK
      have o1 : Va ρ w 1 g1 28 ([.int .i64 a0.p, .int .i64 a0.n, .int .i64 a0.m, .int .i64 a0.k, va0]) := hG
      exact d_val (R := fun ρ w v => .pointer (some ((⟨g1, 0, none⟩ : Addr).add (0 + 2))) = v) hw (wn rfl) (r_fa fa28_2 hf rfl) rfl rfl hK
    · intro ρ w a hw hG hf hd K hK
      have o1 : Va ρ w 1 g1 28 ([.int .i64 a0.p, .int .i64 a0.n, .int .i64 a0.m, .int .i64 a0.k, va0]) := hG
      obtain ⟨_, ht, rfl⟩ := hd 5 (by kernel_rfl)
      replace hf := hf.more ht
      exact d_val (R := fun ρ w v => .int .i64 a0.m = v) hw (wn rfl) (r_load_cell ty2 hf rfl (o1.cl.at_ 2 _ rfl)) rfl rfl hK
    · intro ρ w a hw hG hf hd K hK
      have o1 : Va ρ w 1 g1 28 ([.int .i64 a0.p, .int .i64 a0.n, .int .i64 a0.m, .int .i64 a0.k, va0]) := hG
      exact d_val (R := fun ρ w v => .pointer (some ((⟨g1, 0, none⟩ : Addr).add (0 + 3))) = v) hw (wn rfl) (r_fa fa28_3 hf rfl) rfl rfl hK
    · intro ρ w a hw hG hf hd K hK
      have o1 : Va ρ w 1 g1 28 ([.int .i64 a0.p, .int .i64 a0.n, .int .i64 a0.m, .int .i64 a0.k, va0]) := hG
      obtain ⟨_, ht, rfl⟩ := hd 7 (by kernel_rfl)
      replace hf := hf.more ht
      exact d_val (R := fun ρ w v => .int .i64 a0.k = v) hw (wn rfl) (r_load_cell ty2 hf rfl (o1.cl.at_ 3 _ rfl)) rfl rfl hK
    · intro ρ w a hw hG hf hd K hK
      have o1 : Va ρ w 1 g1 28 ([.int .i64 a0.p, .int .i64 a0.n, .int .i64 a0.m, .int .i64 a0.k, va0]) := hG
      obtain ⟨_, ht, rfl⟩ := hd 6 (by kernel_rfl)
      replace hf := hf.more ht
      obtain ⟨_, ht, rfl⟩ := hd 8 (by kernel_rfl)
      replace hf := hf.more ht
      exact d_val (R := fun ρ w v => .int .i64 (w64 (a0.m * a0.k)) = v) hw (wn rfl) (r_mul hf rfl rfl) rfl rfl hK
    · intro ρ w a hw hG hf hd K hK
      have o1 : Va ρ w 1 g1 28 ([.int .i64 a0.p, .int .i64 a0.n, .int .i64 a0.m, .int .i64 a0.k, va0]) := hG
      exact d_val (R := fun ρ w v => .pointer (some ((⟨g1, 0, none⟩ : Addr).add (0 + 1))) = v) hw (wn rfl) (r_fa fa28_1 hf rfl) rfl rfl hK
    · intro ρ w a hw hG hf hd K hK
      have o1 : Va ρ w 1 g1 28 ([.int .i64 a0.p, .int .i64 a0.n, .int .i64 a0.m, .int .i64 a0.k, va0]) := hG
      obtain ⟨_, ht, rfl⟩ := hd 10 (by kernel_rfl)
      replace hf := hf.more ht
      exact d_val (R := fun ρ w v => .int .i64 a0.n = v) hw (wn rfl) (r_load_cell ty2 hf rfl (o1.cl.at_ 1 _ rfl)) rfl rfl hK
    · intro ρ w a hw hG hf hd K hK
      have o1 : Va ρ w 1 g1 28 ([.int .i64 a0.p, .int .i64 a0.n, .int .i64 a0.m, .int .i64 a0.k, va0]) := hG
      exact d_val (R := fun ρ w v => .pointer (some ((⟨g1, 0, none⟩ : Addr).add (0 + 3))) = v) hw (wn rfl) (r_fa fa28_3 hf rfl) rfl rfl hK
    · intro ρ w a hw hG hf hd K hK
      have o1 : Va ρ w 1 g1 28 ([.int .i64 a0.p, .int .i64 a0.n, .int .i64 a0.m, .int .i64 a0.k, va0]) := hG
      obtain ⟨_, ht, rfl⟩ := hd 12 (by kernel_rfl)
      replace hf := hf.more ht
      exact d_val (R := fun ρ w v => .int .i64 a0.k = v) hw (wn rfl) (r_load_cell ty2 hf rfl (o1.cl.at_ 3 _ rfl)) rfl rfl hK
    · intro ρ w a hw hG hf hd K hK
      have o1 : Va ρ w 1 g1 28 ([.int .i64 a0.p, .int .i64 a0.n, .int .i64 a0.m, .int .i64 a0.k, va0]) := hG
      obtain ⟨_, ht, rfl⟩ := hd 11 (by kernel_rfl)
      replace hf := hf.more ht
      obtain ⟨_, ht, rfl⟩ := hd 13 (by kernel_rfl)
      replace hf := hf.more ht
      exact d_val (R := fun ρ w v => .int .i64 (w64 (a0.n * a0.k)) = v) hw (wn rfl) (r_mul hf rfl rfl) rfl rfl hK
    · intro ρ w a hw hG hf hd K hK
      have o1 : Va ρ w 1 g1 28 ([.int .i64 a0.p, .int .i64 a0.n, .int .i64 a0.m, .int .i64 a0.k, va0]) := hG
      obtain ⟨_, ht, rfl⟩ := hd 4 (by kernel_rfl)
      replace hf := hf.more ht
      exact d_val (R := fun ρ w v => .int .i64 (w64 (a0.n * a0.m)) = v) hw (wn rfl) (r_assign hf rfl) rfl rfl hK
    · intro ρ w a hw hG hf hd K hK
      have o1 : Va ρ w 1 g1 28 ([.int .i64 a0.p, .int .i64 a0.n, .int .i64 a0.m, .int .i64 a0.k, va0]) := hG
      obtain ⟨_, ht, rfl⟩ := hd 9 (by kernel_rfl)
      replace hf := hf.more ht
      exact d_val (R := fun ρ w v => .int .i64 (w64 (a0.m * a0.k)) = v) hw (wn rfl) (r_assign hf rfl) rfl rfl hK
  · intro ρ w a hw hG hf hd
    have o1 : Va ρ w 1 g1 28 ([.int .i64 a0.p, .int .i64 a0.n, .int .i64 a0.m, .int .i64 a0.k, va0]) := hG
    replace hf : Fr 20 a [(1, .pointer (some ((⟨g1, 0, none⟩ : Addr).add 0)))] := hf
    obtain ⟨_, ht, rfl⟩ := hd 14 (by decide)
    replace hf := hf.more ht
    obtain ⟨_, ht, rfl⟩ := hd 15 (by decide)
    replace hf := hf.more ht
    obtain ⟨_, ht, rfl⟩ := hd 16 (by decide)
    replace hf := hf.more ht
    refine st hf rfl rfl (by decide) (r_assign hf rfl) fun a hf => ?_
    refine c_nt ?_
    refine c_retc ?_
    obtain rfl := Option.some.inj hF
    refine c_ret hf (res_ttt Try.results134 hf rfl rfl rfl) ?_
    exact ⟨_, rfl, hw.below, rfl⟩
/-! f81 -/
noncomputable def spec_l01Form_l1 (a0 : Int) (a1 : Form) (a2 : Int) (s2 : Int) : Option (LR Int Bool) :=
  if (decide (s2 < 9)) = true then ((if 0 ≤ s2 ∧ s2 < 9 then (if (decide (a0 ≤ ((vg 0 a1 s2).toNat : Int))) = true then (some true) else (if (decide (a2 ≤ s2)) = true then (some (decide (((vg 0 a1 s2).toNat : Int) ≠ 0))) else (some false))) else none).bind fun (s5 : Bool) => if s5 = true then (some (.ret false)) else (some (.next (w64 (s2 + 1))))) else (some (.stop s2))
noncomputable def spec_l01Form (a0 : Int) (a1 : Form) (a2 : Int) : Option Bool :=
  (iter (fun s => spec_l01Form_l1 a0 a1 a2 s) 0).bind fun o => match o with | .stop s2 => (some (true)) | .ret r => some r | .next _ => none
theorem spec_l01Form_ok {w0 : World} {a0 : Int} {a1 : Form} {a2 : Int}   {r : Bool} (hF : spec_l01Form a0 a1 a2 = some r) :
    Calls Try.prog 81 [.int .i64 a0, .agg (cForm.enc a1).toArray, .int .i64 a2].toArray w0 fun e w => ∃ v, e = .returned v ∧ Below w0.heap.size w0 w ∧ .bool r = v := by
  refine calls_of (k := 29) Try.func81 rfl rfl (Nat.le_of_ble_eq_true rfl) fun a hf => ?_
  replace hf : Fr 29 a [(0, .int .i64 a0), (1, .agg (cForm.enc a1).toArray), (2, .int .i64 a2)] := hf
  refine c_start fun w ρ hw => ?_
  unfold spec_l01Form at hF
  refine c_seq ?_
  refine c_region ?_
  refine st_ex hf rfl rfl (by decide) (r_box (cs := cForm.enc a1) 1 hw hf rfl rfl) fun a v w hf hΦ => ?_
  obtain ⟨g1, ρ, rfl, hw, hE, o1⟩ := hΦ
  refine st hf rfl rfl (by decide) (r_assign hf rfl) fun a hf => ?_
  refine c_nt ?_
  refine c_seq ?_
  refine c_seq ?_
  refine c_region ?_
  refine st hf rfl rfl (by decide) (r_assign hf rfl) fun a hf => ?_
  refine c_nt ?_
  obtain ⟨ol1, ho1, hG1⟩ := of_bind hF
  clear hF
  refine c_block (c_loop (id := 0) (fun s => spec_l01Form_l1 a0 a1 a2 s) (fun (s : Int) a w => ∃ ρ, Wd w0 ρ w ∧ Fr 29 a [(0, .int .i64 a0), (2, .int .i64 a2), (4, .pointer (some ((⟨g1, 0, none⟩ : Addr).add 0))), (7, .int .i64 s)] ∧ Va ρ w 1 g1 39 (cForm.enc a1)) (fun (s : Int) a w => ∃ ρ, Wd w0 ρ w ∧ Fr 29 a []) ho1 ⟨_, hw, hf.sub ⟨rfl, rfl, rfl, rfl, trivial⟩, o1⟩ ?_ ?_)
  · rintro s2 lr a w ⟨ρ, hw, hf, o1⟩ hF
    replace hf : Fr 29 a [(0, .int .i64 a0), (2, .int .i64 a2), (4, .pointer (some ((⟨g1, 0, none⟩ : Addr).add 0))), (7, .int .i64 s2)] := hf
    replace o1 : Va ρ w 1 g1 39 (cForm.enc a1) := o1
    replace hF : spec_l01Form_l1 a0 a1 a2 s2 = some lr := hF
    unfold spec_l01Form_l1 at hF
    refine c_seq ?_
    refine c_seq ?_
    refine c_region ?_
    refine st hf rfl rfl (by decide) (r_move hf rfl) fun a hf => ?_
    refine st hf rfl rfl (by decide) (r_lss hf rfl rfl) fun a hf => ?_
    refine c_nt ?_
    rcases of_ite hF with ⟨hb3, hF⟩ | ⟨hb3, hF⟩
    · refine c_ift hf rfl hb3 ?_
      refine c_skip ?_
      refine n_then ?_
      refine c_seq ?_
      refine c_block ?_
      refine c_seq ?_
      obtain ⟨s5, hT4, hG4⟩ := of_bind hF
      clear hF
      refine c_meet (fun (s : Bool) a w => ∃ ρ, Wd w0 ρ w ∧ Fr 29 a [(0, .int .i64 a0), (2, .int .i64 a2), (4, .pointer (some ((⟨g1, 0, none⟩ : Addr).add 0))), (7, .int .i64 s2), (28, .bool s)] ∧ Va ρ w 1 g1 39 (cForm.enc a1)) s5 ?_ ?_
      · have hF := hT4
        refine c_region ?_
        refine st hf rfl rfl (by decide) (r_move hf rfl) fun a hf => ?_
        obtain ⟨hc6, hF⟩ := of_guard hF
        refine st hf rfl rfl (by decide) (r_indexAddr_arr Try.underlying39 sz5 hf rfl rfl hc6.1 hc6.2) fun a hf => ?_
        refine st hf rfl rfl (by decide) (r_load_cell ty5 hf rfl (o1.cl.lens (Lens.vec 0 fU8 s2 hc6.1 hc6.2))) fun a hf => ?_
        refine st hf rfl rfl (by decide) (r_conv_u8_i64 Try.underlying5 Try.underlying2 hf rfl) fun a hf => ?_
        refine st hf rfl rfl (by decide) (r_move hf rfl) fun a hf => ?_
        refine st hf rfl rfl (by decide) (r_geq hf rfl rfl) fun a hf => ?_
        refine st hf rfl rfl (by decide) (r_move hf rfl) fun a hf => ?_
        rcases of_ite hF with ⟨hb7, hF⟩ | ⟨hb7, hF⟩
        · refine st_no (b := true) hf rfl rfl rfl hb7 rfl (by decide) fun a hf => ?_
          refine st_no (b := true) hf rfl rfl rfl hb7 rfl (by decide) fun a hf => ?_
          refine st_no (b := true) hf rfl rfl rfl hb7 rfl (by decide) fun a hf => ?_
          refine st_no (b := true) hf rfl rfl rfl hb7 rfl (by decide) fun a hf => ?_
          refine st_nu hf rfl rfl rfl rfl (by decide) fun a hf => ?_
          refine st_nu hf rfl rfl rfl rfl (by decide) fun a hf => ?_
          refine st_nu hf rfl rfl rfl rfl (by decide) fun a hf => ?_
          refine st_nu hf rfl rfl rfl rfl (by decide) fun a hf => ?_
          refine st_no (b := true) hf rfl rfl rfl hb7 rfl (by decide) fun a hf => ?_
          refine st hf rfl rfl (by decide) (r_pick (b := true) hf rfl hb7 rfl) fun a hf => ?_
          refine c_nil ⟨rfl, ?_⟩
          obtain rfl := Option.some.inj hF
          exact ⟨_, hw, hf.sub ⟨rfl, rfl, rfl, rfl, rfl, trivial⟩, o1⟩
        · refine st_g (b := false) hf rfl rfl rfl hb7 rfl (by decide) (r_move hf rfl) fun a hf => ?_
          refine st_g (b := false) hf rfl rfl rfl hb7 rfl (by decide) (r_move hf rfl) fun a hf => ?_
          refine st_g (b := false) hf rfl rfl rfl hb7 rfl (by decide) (r_geq hf rfl rfl) fun a hf => ?_
          refine st_g (b := false) hf rfl rfl rfl hb7 rfl (by decide) (r_move hf rfl) fun a hf => ?_
          rcases of_ite hF with ⟨hb8, hF⟩ | ⟨hb8, hF⟩
          · refine st_g (b := true) hf rfl rfl rfl hb8 rfl (by decide) (r_move hf rfl) fun a hf => ?_
            refine st_g (b := true) hf rfl rfl rfl hb8 rfl (by decide) (r_indexAddr_arr Try.underlying39 sz5 hf rfl rfl hc6.1 hc6.2) fun a hf => ?_
            refine st_g (b := true) hf rfl rfl rfl hb8 rfl (by decide) (r_load_cell ty5 hf rfl (o1.cl.lens (Lens.vec 0 fU8 s2 hc6.1 hc6.2))) fun a hf => ?_
            refine st_g (b := true) hf rfl rfl rfl hb8 rfl (by decide) (r_neq hf rfl rfl) fun a hf => ?_
            refine st_g (b := false) hf rfl rfl rfl hb7 rfl (by decide) (r_pick (b := true) hf rfl hb8 rfl) fun a hf => ?_
            refine st hf rfl rfl (by decide) (r_pick (b := false) hf rfl hb7 rfl) fun a hf => ?_
            refine c_nil ⟨rfl, ?_⟩
            obtain rfl := Option.some.inj hF
            exact ⟨_, hw, hf.sub ⟨rfl, rfl, rfl, rfl, rfl, trivial⟩, o1⟩
          · refine st_no (b := false) hf rfl rfl rfl hb8 rfl (by decide) fun a hf => ?_
            refine st_no (b := false) hf rfl rfl rfl hb8 rfl (by decide) fun a hf => ?_
            refine st_no (b := false) hf rfl rfl rfl hb8 rfl (by decide) fun a hf => ?_
            refine st_no (b := false) hf rfl rfl rfl hb8 rfl (by decide) fun a hf => ?_
            refine st_g (b := false) hf rfl rfl rfl hb7 rfl (by decide) (r_pick (b := false) hf rfl hb8 rfl) fun a hf => ?_
            refine st hf rfl rfl (by decide) (r_pick (b := false) hf rfl hb7 rfl) fun a hf => ?_
            refine c_nil ⟨rfl, ?_⟩
            obtain rfl := Option.some.inj hF
            exact ⟨_, hw, hf.sub ⟨rfl, rfl, rfl, rfl, rfl, trivial⟩, o1⟩
      · rintro a w ⟨ρ, hw, hf, o1⟩
        replace hf : Fr 29 a [(0, .int .i64 a0), (2, .int .i64 a2), (4, .pointer (some ((⟨g1, 0, none⟩ : Addr).add 0))), (7, .int .i64 s2), (28, .bool s5)] := hf
        replace o1 : Va ρ w 1 g1 39 (cForm.enc a1) := o1
        have hF := hG4
        refine n_then ?_
        rcases of_ite hF with ⟨hb9, hF⟩ | ⟨hb9, hF⟩
        · refine c_ift hf rfl hb9 ?_
          refine c_seq ?_
          refine c_region ?_
          refine st hf rfl rfl (by decide) (r_assign hf rfl) fun a hf => ?_
          refine c_nt ?_
          refine c_retc ?_
          obtain rfl := Option.some.inj hF
          refine r_block ?_
          refine r_then ?_
          refine Rnd.rets fun ho => ?_
          subst ho
          have hF := hG1
          dsimp only at hF
          obtain rfl := Option.some.inj hF
          refine r_block ?_
          refine r_then ?_
          refine c_ret hf (res_tmp Try.results81 hf rfl) ?_
          exact ⟨_, rfl, hw.below, rfl⟩
        · refine c_iff hf rfl hb9 ?_
          refine c_skip ?_
          refine n_block ?_
          refine n_then ?_
          refine c_region ?_
          refine st hf rfl rfl (by decide) (r_move hf rfl) fun a hf => ?_
          refine st hf rfl rfl (by decide) (r_add hf rfl rfl) fun a hf => ?_
          refine st hf rfl rfl (by decide) (r_assign hf rfl) fun a hf => ?_
          refine c_nil ?_
          obtain rfl := Option.some.inj hF
          exact Rnd.goes ⟨_, hw, hf.sub ⟨rfl, rfl, rfl, rfl, trivial⟩, o1⟩
    · refine c_iff hf rfl hb3 ?_
      refine c_exit ?_
      refine x_then ?_
      obtain rfl := Option.some.inj hF
      exact Rnd.stops ⟨_, hw, hf.sub trivial⟩
  · rintro s2 a w hs ⟨ρ, hw, hf⟩
    subst hs
    replace hf : Fr 29 a [] := hf
    have hF := hG1
    dsimp only at hF
    refine x_block ?_
    refine n_then ?_
    refine c_seq ?_
    refine c_region ?_
    refine st hf rfl rfl (by decide) (r_assign hf rfl) fun a hf => ?_
    refine c_nt ?_
    refine c_retc ?_
    obtain rfl := Option.some.inj hF
    refine c_ret hf (res_tmp Try.results81 hf rfl) ?_
    exact ⟨_, rfl, hw.below, rfl⟩
/-! f83 -/
noncomputable def spec_l01Zero (a0 : Form) : Option Bool :=
  some (decide (a0 = zForm))
theorem spec_l01Zero_ok {w0 : World} {a0 : Form}   {r : Bool} (hF : spec_l01Zero a0 = some r) :
    Calls Try.prog 83 [.agg (cForm.enc a0).toArray].toArray w0 fun e w => ∃ v, e = .returned v ∧ Below w0.heap.size w0 w ∧ .bool r = v := by
  refine calls_of (k := 6) Try.func83 rfl rfl (Nat.le_of_ble_eq_true rfl) fun a hf => ?_
  replace hf : Fr 6 a [(0, .agg (cForm.enc a0).toArray)] := hf
  refine c_start fun w ρ hw => ?_
  unfold spec_l01Zero at hF
  refine c_seq ?_
  refine c_region ?_
  refine st_ex hf rfl rfl (by decide) (r_box (cs := cForm.enc a0) 1 hw hf rfl rfl) fun a v w hf hΦ => ?_
  obtain ⟨g1, ρ, rfl, hw, hE, o1⟩ := hΦ
  refine st hf rfl rfl (by decide) (r_assign hf rfl) fun a hf => ?_
  refine c_nt ?_
  refine c_seq ?_
  refine c_region ?_
  refine st hf rfl rfl (by decide) (r_load_agg ty39 hf rfl o1.cl (cForm.len _)) fun a hf => ?_
  refine st hf rfl rfl (by decide) (r_build_arr (vs := []) (res := (cForm.enc zForm).toArray) Try.underlying39 sz5 ze39 hf rfl rfl rfl) fun a hf => ?_
  refine st hf rfl rfl (by decide) (r_eq (d := cForm) eq39 ⟨_, rfl⟩ gt39 hf rfl rfl) fun a hf => ?_
  refine st hf rfl rfl (by decide) (r_assign hf rfl) fun a hf => ?_
  refine c_nt ?_
  refine c_retc ?_
  obtain rfl := Option.some.inj hF
  refine c_ret hf (res_tmp Try.results83 hf rfl) ?_
  exact ⟨_, rfl, hw.below, rfl⟩
/-! f128 -/
noncomputable def spec_l01Product (a0 : Sch) (a1 : Prod) : Option Bool :=
  (spec_l01Lengths a0).bind fun x1 => ((spec_l01Form a0.p a1.1 x1.1).bind fun x5 => if (!x5) = true then (some true) else ((spec_l01Form a0.p a1.2.1 x1.2.1).bind fun x8 => if (!x8) = true then (some true) else ((spec_l01Form a0.p a1.2.2 x1.2.2).bind fun x11 => some (!x11)))).bind fun (s4 : Bool) => if s4 = true then (some (false)) else (((spec_l01Zero a1.1).bind fun x16 => if (!x16) = true then ((spec_l01Zero a1.2.1).bind fun x19 => if (!x19) = true then ((spec_l01Zero a1.2.2).bind fun x22 => some (!x22)) else (some false)) else (some false)).bind fun (s15 : Bool) => some (s15))
theorem spec_l01Product_ok {w0 : World} {a0 : Sch} {a1 : Prod} {va0 : Value} (h0 : Ro (kf cProd) w0 va0 a0.ps) {r : Bool} (hF : spec_l01Product a0 a1 = some r) :
    Calls Try.prog 128 [.agg ([.int .i64 a0.p, .int .i64 a0.n, .int .i64 a0.m, .int .i64 a0.k, va0]).toArray, .agg (cProd.enc a1).toArray].toArray w0 fun e w => ∃ v, e = .returned v ∧ Below w0.heap.size w0 w ∧ .bool r = v := by
  refine calls_of (k := 55) Try.func128 rfl rfl (Nat.le_of_ble_eq_true rfl) fun a hf => ?_
  replace hf : Fr 55 a [(0, .agg ([.int .i64 a0.p, .int .i64 a0.n, .int .i64 a0.m, .int .i64 a0.k, va0]).toArray), (1, .agg (cProd.enc a1).toArray)] := hf
  refine c_start fun w ρ hw => ?_
  unfold spec_l01Product at hF
  refine c_seq ?_
  refine c_region ?_
  refine st_ex hf rfl rfl (by decide) (r_box (cs := [.int .i64 a0.p, .int .i64 a0.n, .int .i64 a0.m, .int .i64 a0.k, va0]) 1 hw hf rfl rfl) fun a v w hf hΦ => ?_
  obtain ⟨g1, ρ, rfl, hw, hE, o1⟩ := hΦ
  refine st_ex hf rfl rfl (by decide) (r_box (cs := cProd.enc a1) 2 hw hf rfl rfl) fun a v w hf hΦ => ?_
  obtain ⟨g2, ρ, rfl, hw, hE, o2⟩ := hΦ
  replace o1 := o1.ext hE
  refine st hf rfl rfl (by decide) (r_assign hf rfl) fun a hf => ?_
  refine c_nt ?_
  refine c_seq ?_
  refine c_region ?_
  refine st hf rfl rfl (by decide) (r_load_agg ty28 hf rfl o1.cl rfl) fun a hf => ?_
  obtain ⟨x1, hx2, hF⟩ := of_bind hF
  refine st_fn 3 hw hf rfl rfl (by decide) (r_fn en134 hf rfl) (spec_l01Lengths_ok (a0 := a0) (h0.now hw) hx2) fun a v w ρ hf hw hE hN hΦ => ?_
  obtain rfl := hΦ
  replace o1 := o1.ext hE
  replace o2 := o2.ext hE
  refine st hf rfl rfl (by decide) (r_move hf rfl) fun a hf => ?_
  refine st hf rfl rfl (by decide) (r_extract hf rfl rfl) fun a hf => ?_
  refine st hf rfl rfl (by decide) (r_extract hf rfl rfl) fun a hf => ?_
  refine st hf rfl rfl (by decide) (r_extract hf rfl rfl) fun a hf => ?_
  refine st hf rfl rfl (by decide) (r_assign hf rfl) fun a hf => ?_
  refine st hf rfl rfl (by decide) (r_assign hf rfl) fun a hf => ?_
  refine st hf rfl rfl (by decide) (r_assign hf rfl) fun a hf => ?_
  refine c_nt ?_
  refine c_seq ?_
  refine c_seq ?_
  obtain ⟨s4, hT3, hG3⟩ := of_bind hF
  clear hF
  refine c_meet (fun (s : Bool) a w => ∃ ρ, Wd w0 ρ w ∧ Fr 55 a [(3, .pointer (some ((⟨g2, 0, none⟩ : Addr).add 0))), (38, .bool s)] ∧ Va ρ w 2 g2 78 (cProd.enc a1)) s4 ?_ ?_
  · have hF := hT3
    refine c_region ?_
    refine st hf rfl rfl (by decide) (r_fa fa28_0 hf rfl) fun a hf => ?_
    refine st hf rfl rfl (by decide) (r_load_cell ty2 hf rfl (o1.cl.at_ 0 _ rfl)) fun a hf => ?_
    refine st hf rfl rfl (by decide) (r_fa fa78_0 hf rfl) fun a hf => ?_
    refine st hf rfl rfl (by decide) (r_load_agg ty39 hf rfl (o2.cl.lens lProd_0) (cForm.len _)) fun a hf => ?_
    refine st hf rfl rfl (by decide) (r_move hf rfl) fun a hf => ?_
    obtain ⟨x5, hx6, hF⟩ := of_bind hF
    refine st_fn 4 hw hf rfl rfl (by decide) (r_fn en81 hf rfl) (spec_l01Form_ok  hx6) fun a v w ρ hf hw hE hN hΦ => ?_
    obtain rfl := hΦ
    replace o1 := o1.ext hE
    replace o2 := o2.ext hE
    refine st hf rfl rfl (by decide) (r_not hf rfl) fun a hf => ?_
    refine st hf rfl rfl (by decide) (r_move hf rfl) fun a hf => ?_
    rcases of_ite hF with ⟨hb7, hF⟩ | ⟨hb7, hF⟩
    · refine st_no (b := true) hf rfl rfl rfl hb7 rfl (by decide) fun a hf => ?_
      refine st_no (b := true) hf rfl rfl rfl hb7 rfl (by decide) fun a hf => ?_
      refine st_no (b := true) hf rfl rfl rfl hb7 rfl (by decide) fun a hf => ?_
      refine st_no (b := true) hf rfl rfl rfl hb7 rfl (by decide) fun a hf => ?_
      refine st_no (b := true) hf rfl rfl rfl hb7 rfl (by decide) fun a hf => ?_
      refine st_no (b := true) hf rfl rfl rfl hb7 rfl (by decide) fun a hf => ?_
      refine st_no (b := true) hf rfl rfl rfl hb7 rfl (by decide) fun a hf => ?_
      refine st hf rfl rfl (by decide) (r_pick (b := true) hf rfl hb7 rfl) fun a hf => ?_
      refine st hf rfl rfl (by decide) (r_move hf rfl) fun a hf => ?_
      refine st_no (b := true) hf rfl rfl rfl rfl rfl (by decide) fun a hf => ?_
      refine st_no (b := true) hf rfl rfl rfl rfl rfl (by decide) fun a hf => ?_
      refine st_no (b := true) hf rfl rfl rfl rfl rfl (by decide) fun a hf => ?_
      refine st_no (b := true) hf rfl rfl rfl rfl rfl (by decide) fun a hf => ?_
      refine st_no (b := true) hf rfl rfl rfl rfl rfl (by decide) fun a hf => ?_
      refine st_no (b := true) hf rfl rfl rfl rfl rfl (by decide) fun a hf => ?_
      refine st_no (b := true) hf rfl rfl rfl rfl rfl (by decide) fun a hf => ?_
      refine st hf rfl rfl (by decide) (r_pick (b := true) hf rfl rfl rfl) fun a hf => ?_
      refine c_nil ⟨rfl, ?_⟩
      obtain rfl := Option.some.inj hF
      exact ⟨_, hw, hf.sub ⟨rfl, rfl, trivial⟩, o2⟩
    · refine st_g (b := false) hf rfl rfl rfl hb7 rfl (by decide) (r_fa fa28_0 hf rfl) fun a hf => ?_
      refine st_g (b := false) hf rfl rfl rfl hb7 rfl (by decide) (r_load_cell ty2 hf rfl (o1.cl.at_ 0 _ rfl)) fun a hf => ?_
      refine st_g (b := false) hf rfl rfl rfl hb7 rfl (by decide) (r_fa fa78_1 hf rfl) fun a hf => ?_
      refine st_g (b := false) hf rfl rfl rfl hb7 rfl (by decide) (r_load_agg ty39 hf rfl (o2.cl.lens lProd_1) (cForm.len _)) fun a hf => ?_
      refine st_g (b := false) hf rfl rfl rfl hb7 rfl (by decide) (r_move hf rfl) fun a hf => ?_
      obtain ⟨x8, hx9, hF⟩ := of_bind hF
      refine st_gfn (b := false) 5 hw hf rfl rfl rfl hb7 rfl (by decide) (r_fn en81 hf rfl) (spec_l01Form_ok  hx9) fun a v w ρ hf hw hE hN hΦ => ?_
      obtain rfl := hΦ
      replace o1 := o1.ext hE
      replace o2 := o2.ext hE
      refine st_g (b := false) hf rfl rfl rfl hb7 rfl (by decide) (r_not hf rfl) fun a hf => ?_
      refine st hf rfl rfl (by decide) (r_pick (b := false) hf rfl hb7 rfl) fun a hf => ?_
      refine st hf rfl rfl (by decide) (r_move hf rfl) fun a hf => ?_
      rcases of_ite hF with ⟨hb10, hF⟩ | ⟨hb10, hF⟩
      · refine st_no (b := true) hf rfl rfl rfl hb10 rfl (by decide) fun a hf => ?_
        refine st_no (b := true) hf rfl rfl rfl hb10 rfl (by decide) fun a hf => ?_
        refine st_no (b := true) hf rfl rfl rfl hb10 rfl (by decide) fun a hf => ?_
        refine st_no (b := true) hf rfl rfl rfl hb10 rfl (by decide) fun a hf => ?_
        refine st_no (b := true) hf rfl rfl rfl hb10 rfl (by decide) fun a hf => ?_
        refine st_no (b := true) hf rfl rfl rfl hb10 rfl (by decide) fun a hf => ?_
        refine st_no (b := true) hf rfl rfl rfl hb10 rfl (by decide) fun a hf => ?_
        refine st hf rfl rfl (by decide) (r_pick (b := true) hf rfl hb10 rfl) fun a hf => ?_
        refine c_nil ⟨rfl, ?_⟩
        obtain rfl := Option.some.inj hF
        exact ⟨_, hw, hf.sub ⟨rfl, rfl, trivial⟩, o2⟩
      · refine st_g (b := false) hf rfl rfl rfl hb10 rfl (by decide) (r_fa fa28_0 hf rfl) fun a hf => ?_
        refine st_g (b := false) hf rfl rfl rfl hb10 rfl (by decide) (r_load_cell ty2 hf rfl (o1.cl.at_ 0 _ rfl)) fun a hf => ?_
        refine st_g (b := false) hf rfl rfl rfl hb10 rfl (by decide) (r_fa fa78_2 hf rfl) fun a hf => ?_
        refine st_g (b := false) hf rfl rfl rfl hb10 rfl (by decide) (r_load_agg ty39 hf rfl (o2.cl.lens lProd_2) (cForm.len _)) fun a hf => ?_
        refine st_g (b := false) hf rfl rfl rfl hb10 rfl (by decide) (r_move hf rfl) fun a hf => ?_
        obtain ⟨x11, hx12, hF⟩ := of_bind hF
        refine st_gfn (b := false) 6 hw hf rfl rfl rfl hb10 rfl (by decide) (r_fn en81 hf rfl) (spec_l01Form_ok  hx12) fun a v w ρ hf hw hE hN hΦ => ?_
        obtain rfl := hΦ
        replace o1 := o1.ext hE
        replace o2 := o2.ext hE
        refine st_g (b := false) hf rfl rfl rfl hb10 rfl (by decide) (r_not hf rfl) fun a hf => ?_
        refine st hf rfl rfl (by decide) (r_pick (b := false) hf rfl hb10 rfl) fun a hf => ?_
        refine c_nil ⟨rfl, ?_⟩
        obtain rfl := Option.some.inj hF
        exact ⟨_, hw, hf.sub ⟨rfl, rfl, trivial⟩, o2⟩
  · rintro a w ⟨ρ, hw, hf, o2⟩
    replace hf : Fr 55 a [(3, .pointer (some ((⟨g2, 0, none⟩ : Addr).add 0))), (38, .bool s4)] := hf
    replace o2 : Va ρ w 2 g2 78 (cProd.enc a1) := o2
    have hF := hG3
    refine n_then ?_
    rcases of_ite hF with ⟨hb13, hF⟩ | ⟨hb13, hF⟩
    · refine c_ift hf rfl hb13 ?_
      refine c_seq ?_
      refine c_region ?_
      refine st hf rfl rfl (by decide) (r_assign hf rfl) fun a hf => ?_
      refine c_nt ?_
      refine c_retc ?_
      obtain rfl := Option.some.inj hF
      refine r_then ?_
      refine c_ret hf (res_tmp Try.results128 hf rfl) ?_
      exact ⟨_, rfl, hw.below, rfl⟩
    · refine c_iff hf rfl hb13 ?_
      refine c_skip ?_
      refine n_then ?_
      refine c_seq ?_
      obtain ⟨s15, hT14, hG14⟩ := of_bind hF
      clear hF
      refine c_meet (fun (s : Bool) a w => ∃ ρ, Wd w0 ρ w ∧ Fr 55 a [(4, .bool s)]) s15 ?_ ?_
      · have hF := hT14
        refine c_region ?_
        refine st hf rfl rfl (by decide) (r_fa fa78_0 hf rfl) fun a hf => ?_
        refine st hf rfl rfl (by decide) (r_load_agg ty39 hf rfl (o2.cl.lens lProd_0) (cForm.len _)) fun a hf => ?_
        obtain ⟨x16, hx17, hF⟩ := of_bind hF
        refine st_fn 7 hw hf rfl rfl (by decide) (r_fn en83 hf rfl) (spec_l01Zero_ok  hx17) fun a v w ρ hf hw hE hN hΦ => ?_
        obtain rfl := hΦ
        replace o2 := o2.ext hE
        refine st hf rfl rfl (by decide) (r_not hf rfl) fun a hf => ?_
        refine st hf rfl rfl (by decide) (r_move hf rfl) fun a hf => ?_
        rcases of_ite hF with ⟨hb18, hF⟩ | ⟨hb18, hF⟩
        · refine st_g (b := true) hf rfl rfl rfl hb18 rfl (by decide) (r_fa fa78_1 hf rfl) fun a hf => ?_
          refine st_g (b := true) hf rfl rfl rfl hb18 rfl (by decide) (r_load_agg ty39 hf rfl (o2.cl.lens lProd_1) (cForm.len _)) fun a hf => ?_
          obtain ⟨x19, hx20, hF⟩ := of_bind hF
          refine st_gfn (b := true) 8 hw hf rfl rfl rfl hb18 rfl (by decide) (r_fn en83 hf rfl) (spec_l01Zero_ok  hx20) fun a v w ρ hf hw hE hN hΦ => ?_
          obtain rfl := hΦ
          replace o2 := o2.ext hE
          refine st_g (b := true) hf rfl rfl rfl hb18 rfl (by decide) (r_not hf rfl) fun a hf => ?_
          refine st hf rfl rfl (by decide) (r_pick (b := true) hf rfl hb18 rfl) fun a hf => ?_
          refine st hf rfl rfl (by decide) (r_move hf rfl) fun a hf => ?_
          rcases of_ite hF with ⟨hb21, hF⟩ | ⟨hb21, hF⟩
          · refine st_g (b := true) hf rfl rfl rfl hb21 rfl (by decide) (r_fa fa78_2 hf rfl) fun a hf => ?_
            refine st_g (b := true) hf rfl rfl rfl hb21 rfl (by decide) (r_load_agg ty39 hf rfl (o2.cl.lens lProd_2) (cForm.len _)) fun a hf => ?_
            obtain ⟨x22, hx23, hF⟩ := of_bind hF
            refine st_gfn (b := true) 9 hw hf rfl rfl rfl hb21 rfl (by decide) (r_fn en83 hf rfl) (spec_l01Zero_ok  hx23) fun a v w ρ hf hw hE hN hΦ => ?_
            obtain rfl := hΦ
            replace o2 := o2.ext hE
            refine st_g (b := true) hf rfl rfl rfl hb21 rfl (by decide) (r_not hf rfl) fun a hf => ?_
            refine st hf rfl rfl (by decide) (r_pick (b := true) hf rfl hb21 rfl) fun a hf => ?_
            refine st hf rfl rfl (by decide) (r_assign hf rfl) fun a hf => ?_
            refine c_nil ⟨rfl, ?_⟩
            obtain rfl := Option.some.inj hF
            exact ⟨_, hw, hf.sub ⟨rfl, trivial⟩⟩
          · refine st_no (b := false) hf rfl rfl rfl hb21 rfl (by decide) fun a hf => ?_
            refine st_no (b := false) hf rfl rfl rfl hb21 rfl (by decide) fun a hf => ?_
            refine st_no (b := false) hf rfl rfl rfl hb21 rfl (by decide) fun a hf => ?_
            refine st_no (b := false) hf rfl rfl rfl hb21 rfl (by decide) fun a hf => ?_
            refine st hf rfl rfl (by decide) (r_pick (b := false) hf rfl hb21 rfl) fun a hf => ?_
            refine st hf rfl rfl (by decide) (r_assign hf rfl) fun a hf => ?_
            refine c_nil ⟨rfl, ?_⟩
            obtain rfl := Option.some.inj hF
            exact ⟨_, hw, hf.sub ⟨rfl, trivial⟩⟩
        · refine st_no (b := false) hf rfl rfl rfl hb18 rfl (by decide) fun a hf => ?_
          refine st_no (b := false) hf rfl rfl rfl hb18 rfl (by decide) fun a hf => ?_
          refine st_no (b := false) hf rfl rfl rfl hb18 rfl (by decide) fun a hf => ?_
          refine st_no (b := false) hf rfl rfl rfl hb18 rfl (by decide) fun a hf => ?_
          refine st hf rfl rfl (by decide) (r_pick (b := false) hf rfl hb18 rfl) fun a hf => ?_
          refine st hf rfl rfl (by decide) (r_move hf rfl) fun a hf => ?_
          refine st_no (b := false) hf rfl rfl rfl rfl rfl (by decide) fun a hf => ?_
          refine st_no (b := false) hf rfl rfl rfl rfl rfl (by decide) fun a hf => ?_
          refine st_no (b := false) hf rfl rfl rfl rfl rfl (by decide) fun a hf => ?_
          refine st_no (b := false) hf rfl rfl rfl rfl rfl (by decide) fun a hf => ?_
          refine st hf rfl rfl (by decide) (r_pick (b := false) hf rfl rfl rfl) fun a hf => ?_
          refine st hf rfl rfl (by decide) (r_assign hf rfl) fun a hf => ?_
          refine c_nil ⟨rfl, ?_⟩
          obtain rfl := Option.some.inj hF
          exact ⟨_, hw, hf.sub ⟨rfl, trivial⟩⟩
      · rintro a w ⟨ρ, hw, hf⟩
        replace hf : Fr 55 a [(4, .bool s15)] := hf
        have hF := hG14
        refine n_then ?_
        refine c_retc ?_
        obtain rfl := Option.some.inj hF
        refine c_ret hf (res_tmp Try.results128 hf rfl) ?_
        exact ⟨_, rfl, hw.below, rfl⟩
/-! f69 -/
noncomputable def spec_l01Is_l7 (a0 : Sch) (s8 : Int) : Option (LR Int Bool) :=
  if (decide (s8 < (a0.ps.length : Int))) = true then (if 0 ≤ s8 ∧ s8 < (a0.ps.length : Int) then ((spec_l01Product a0 (gl zProd a0.ps s8)).bind fun x12 => if (!x12) = true then (some (.ret false)) else (some (.next (w64 (s8 + 1))))) else none) else (some (.stop s8))
noncomputable def spec_l01Is (a0 : Sch) : Option Bool :=
  ((spec_l01Sizes a0.p a0.n a0.m a0.k).bind fun x3 => if (!x3) = true then (some true) else (some (decide (30 < (a0.ps.length : Int))))).bind fun (s2 : Bool) => if s2 = true then (some (false)) else ((iter (fun s => spec_l01Is_l7 a0 s) 0).bind fun o => match o with | .stop s8 => (some (true)) | .ret r => some r | .next _ => none)
theorem spec_l01Is_ok {w0 : World} {a0 : Sch} {va0 : Value} (h0 : Ro (kf cProd) w0 va0 a0.ps) {r : Bool} (hF : spec_l01Is a0 = some r) :
    Calls Try.prog 69 [.agg ([.int .i64 a0.p, .int .i64 a0.n, .int .i64 a0.m, .int .i64 a0.k, va0]).toArray].toArray w0 fun e w => ∃ v, e = .returned v ∧ Below w0.heap.size w0 w ∧ .bool r = v := by
  refine calls_of (k := 35) Try.func69 rfl rfl (Nat.le_of_ble_eq_true rfl) fun a hf => ?_
  replace hf : Fr 35 a [(0, .agg ([.int .i64 a0.p, .int .i64 a0.n, .int .i64 a0.m, .int .i64 a0.k, va0]).toArray)] := hf
  refine c_start fun w ρ hw => ?_
  unfold spec_l01Is at hF
  refine c_seq ?_
  refine c_region ?_
  refine st_ex hf rfl rfl (by decide) (r_box (cs := [.int .i64 a0.p, .int .i64 a0.n, .int .i64 a0.m, .int .i64 a0.k, va0]) 1 hw hf rfl rfl) fun a v w hf hΦ => ?_
  obtain ⟨g1, ρ, rfl, hw, hE, o1⟩ := hΦ
  refine st hf rfl rfl (by decide) (r_assign hf rfl) fun a hf => ?_
  refine c_nt ?_
  refine c_seq ?_
  refine c_seq ?_
  obtain ⟨s2, hT1, hG1⟩ := of_bind hF
  clear hF
  refine c_meet (fun (s : Bool) a w => ∃ ρ, Wd w0 ρ w ∧ Fr 35 a [(1, .pointer (some ((⟨g1, 0, none⟩ : Addr).add 0))), (19, .bool s)] ∧ Va ρ w 1 g1 28 ([.int .i64 a0.p, .int .i64 a0.n, .int .i64 a0.m, .int .i64 a0.k, va0])) s2 ?_ ?_
  · have hF := hT1
    refine c_region ?_
    refine st hf rfl rfl (by decide) (r_fa fa28_0 hf rfl) fun a hf => ?_
    refine st hf rfl rfl (by decide) (r_load_cell ty2 hf rfl (o1.cl.at_ 0 _ rfl)) fun a hf => ?_
    refine st hf rfl rfl (by decide) (r_fa fa28_1 hf rfl) fun a hf => ?_
    refine st hf rfl rfl (by decide) (r_load_cell ty2 hf rfl (o1.cl.at_ 1 _ rfl)) fun a hf => ?_
    refine st hf rfl rfl (by decide) (r_fa fa28_2 hf rfl) fun a hf => ?_
    refine st hf rfl rfl (by decide) (r_load_cell ty2 hf rfl (o1.cl.at_ 2 _ rfl)) fun a hf => ?_
    refine st hf rfl rfl (by decide) (r_fa fa28_3 hf rfl) fun a hf => ?_
    refine st hf rfl rfl (by decide) (r_load_cell ty2 hf rfl (o1.cl.at_ 3 _ rfl)) fun a hf => ?_
    obtain ⟨x3, hx4, hF⟩ := of_bind hF
    refine st_fn 2 hw hf rfl rfl (by decide) (r_fn en127 hf rfl) (spec_l01Sizes_ok  hx4) fun a v w ρ hf hw hE hN hΦ => ?_
    obtain rfl := hΦ
    replace o1 := o1.ext hE
    refine st hf rfl rfl (by decide) (r_not hf rfl) fun a hf => ?_
    refine st hf rfl rfl (by decide) (r_move hf rfl) fun a hf => ?_
    rcases of_ite hF with ⟨hb5, hF⟩ | ⟨hb5, hF⟩
    · refine st_no (b := true) hf rfl rfl rfl hb5 rfl (by decide) fun a hf => ?_
      refine st_no (b := true) hf rfl rfl rfl hb5 rfl (by decide) fun a hf => ?_
      refine st_no (b := true) hf rfl rfl rfl hb5 rfl (by decide) fun a hf => ?_
      refine st_no (b := true) hf rfl rfl rfl hb5 rfl (by decide) fun a hf => ?_
      refine st hf rfl rfl (by decide) (r_pick (b := true) hf rfl hb5 rfl) fun a hf => ?_
      refine c_nil ⟨rfl, ?_⟩
      obtain rfl := Option.some.inj hF
      exact ⟨_, hw, hf.sub ⟨rfl, rfl, trivial⟩, o1⟩
    · refine st_g (b := false) hf rfl rfl rfl hb5 rfl (by decide) (r_fa fa28_4 hf rfl) fun a hf => ?_
      refine st_g (b := false) hf rfl rfl rfl hb5 rfl (by decide) (r_load_cell ty26 hf rfl (o1.cl.at_ 4 _ rfl)) fun a hf => ?_
      refine st_g (b := false) hf rfl rfl rfl hb5 rfl (by decide) (r_len Try.underlying26 (h0.now hw) hf rfl) fun a hf => ?_
      refine st_g (b := false) hf rfl rfl rfl hb5 rfl (by decide) (r_gtr hf rfl rfl) fun a hf => ?_
      refine st hf rfl rfl (by decide) (r_pick (b := false) hf rfl hb5 rfl) fun a hf => ?_
      refine c_nil ⟨rfl, ?_⟩
      obtain rfl := Option.some.inj hF
      exact ⟨_, hw, hf.sub ⟨rfl, rfl, trivial⟩, o1⟩
  · rintro a w ⟨ρ, hw, hf, o1⟩
    replace hf : Fr 35 a [(1, .pointer (some ((⟨g1, 0, none⟩ : Addr).add 0))), (19, .bool s2)] := hf
    replace o1 : Va ρ w 1 g1 28 ([.int .i64 a0.p, .int .i64 a0.n, .int .i64 a0.m, .int .i64 a0.k, va0]) := o1
    have hF := hG1
    refine n_then ?_
    rcases of_ite hF with ⟨hb6, hF⟩ | ⟨hb6, hF⟩
    · refine c_ift hf rfl hb6 ?_
      refine c_seq ?_
      refine c_region ?_
      refine st hf rfl rfl (by decide) (r_assign hf rfl) fun a hf => ?_
      refine c_nt ?_
      refine c_retc ?_
      obtain rfl := Option.some.inj hF
      refine r_then ?_
      refine c_ret hf (res_tmp Try.results69 hf rfl) ?_
      exact ⟨_, rfl, hw.below, rfl⟩
    · refine c_iff hf rfl hb6 ?_
      refine c_skip ?_
      refine n_then ?_
      refine c_seq ?_
      refine c_seq ?_
      refine c_region ?_
      refine st hf rfl rfl (by decide) (r_assign hf rfl) fun a hf => ?_
      refine c_nt ?_
      obtain ⟨ol7, ho7, hG7⟩ := of_bind hF
      clear hF
      refine c_block (c_loop (id := 0) (fun s => spec_l01Is_l7 a0 s) (fun (s : Int) a w => ∃ ρ, Wd w0 ρ w ∧ Fr 35 a [(1, .pointer (some ((⟨g1, 0, none⟩ : Addr).add 0))), (3, .int .i64 s)] ∧ Va ρ w 1 g1 28 ([.int .i64 a0.p, .int .i64 a0.n, .int .i64 a0.m, .int .i64 a0.k, va0])) (fun (s : Int) a w => ∃ ρ, Wd w0 ρ w ∧ Fr 35 a []) ho7 ⟨_, hw, hf.sub ⟨rfl, rfl, trivial⟩, o1⟩ ?_ ?_)
      · rintro s8 lr a w ⟨ρ, hw, hf, o1⟩ hF
        replace hf : Fr 35 a [(1, .pointer (some ((⟨g1, 0, none⟩ : Addr).add 0))), (3, .int .i64 s8)] := hf
        replace o1 : Va ρ w 1 g1 28 ([.int .i64 a0.p, .int .i64 a0.n, .int .i64 a0.m, .int .i64 a0.k, va0]) := o1
        replace hF : spec_l01Is_l7 a0 s8 = some lr := hF
        unfold spec_l01Is_l7 at hF
        refine c_seq ?_
        refine c_seq ?_
        refine c_region ?_
        refine st hf rfl rfl (by decide) (r_move hf rfl) fun a hf => ?_
        refine st hf rfl rfl (by decide) (r_fa fa28_4 hf rfl) fun a hf => ?_
        refine st hf rfl rfl (by decide) (r_load_cell ty26 hf rfl (o1.cl.at_ 4 _ rfl)) fun a hf => ?_
        refine st hf rfl rfl (by decide) (r_len Try.underlying26 (h0.now hw) hf rfl) fun a hf => ?_
        refine st hf rfl rfl (by decide) (r_lss hf rfl rfl) fun a hf => ?_
        refine c_nt ?_
        rcases of_ite hF with ⟨hb9, hF⟩ | ⟨hb9, hF⟩
        · refine c_ift hf rfl hb9 ?_
          refine c_skip ?_
          refine n_then ?_
          refine c_seq ?_
          refine c_block ?_
          refine c_seq ?_
          obtain ⟨hc10, hF⟩ := of_guard hF
          obtain ⟨ad11, c11, he11, hl11⟩ := Ro.el cProd h0 zProd hc10.1 hc10.2
          replace hf : Fr 35 a [(1, .pointer (some ((⟨g1, 0, none⟩ : Addr).add 0))), (3, .int .i64 s8)] := hf.sub ⟨rfl, rfl, trivial⟩
          refine c_drawL (h := 6) mixed (by kernel_rfl) (by kernel_rfl) (fun ρ w => Va ρ w 1 g1 28 ([.int .i64 a0.p, .int .i64 a0.n, .int .i64 a0.m, .int .i64 a0.k, va0])) ?_ [fun ρ w v => .agg ([.int .i64 a0.p, .int .i64 a0.n, .int .i64 a0.m, .int .i64 a0.k, va0]).toArray = v, fun ρ w v => .pointer (some ((⟨g1, 0, none⟩ : Addr).add (0 + 4))) = v, fun ρ w v => va0 = v, fun ρ w v => .int .i64 s8 = v, fun ρ w v => .pointer (some (ad11.add (s8.toNat * 27))) = v, fun ρ w v => .agg (cProd.enc (gl zProd a0.ps s8)).toArray = v] ?_ hw o1 hf ?_ ?_
          · intro ρ w ρ' w' hE hG
            have o1 : Va ρ w 1 g1 28 ([.int .i64 a0.p, .int .i64 a0.n, .int .i64 a0.m, .int .i64 a0.k, va0]) := hG
            exact o1.ext hE
          · exact LastsL.cons (fun _ _ _ _ _ _ h => h) <| LastsL.cons (fun _ _ _ _ _ _ h => h) <| LastsL.cons (fun _ _ _ _ _ _ h => h) <| LastsL.cons (fun _ _ _ _ _ _ h => h) <| LastsL.cons (fun _ _ _ _ _ _ h => h) <| LastsL.cons (fun _ _ _ _ _ _ h => h) <| LastsL.nil
          · refine StepsB.cons ?_ <| StepsB.cons ?_ <| StepsB.cons ?_ <| StepsB.cons ?_ <| StepsB.cons ?_ <| StepsB.cons ?_ <| StepsB.nil
            · intro ρ w a hw hG hf hd K hK
              have o1 : Va ρ w 1 g1 28 ([.int .i64 a0.p, .int .i64 a0.n, .int .i64 a0.m, .int .i64 a0.k, va0]) := hG
              exact d_val (R := fun ρ w v => .agg ([.int .i64 a0.p, .int .i64 a0.n, .int .i64 a0.m, .int .i64 a0.k, va0]).toArray = v) hw (wn rfl) (r_load_agg ty28 hf rfl o1.cl rfl) rfl rfl hK
            · intro ρ w a hw hG hf hd K hK
              have o1 : Va ρ w 1 g1 28 ([.int .i64 a0.p, .int .i64 a0.n, .int .i64 a0.m, .int .i64 a0.k, va0]) := hG
              exact d_val (R := fun ρ w v => .pointer (some ((⟨g1, 0, none⟩ : Addr).add (0 + 4))) = v) hw (wn rfl) (r_fa fa28_4 hf rfl) rfl rfl hK
            · intro ρ w a hw hG hf hd K hK
              have o1 : Va ρ w 1 g1 28 ([.int .i64 a0.p, .int .i64 a0.n, .int .i64 a0.m, .int .i64 a0.k, va0]) := hG
              obtain ⟨_, ht, rfl⟩ := hd 1 (by kernel_rfl)
              replace hf := hf.more ht
              exact d_val (R := fun ρ w v => va0 = v) hw (wn rfl) (r_load_cell ty26 hf rfl (o1.cl.at_ 4 _ rfl)) rfl rfl hK
            · intro ρ w a hw hG hf hd K hK
              have o1 : Va ρ w 1 g1 28 ([.int .i64 a0.p, .int .i64 a0.n, .int .i64 a0.m, .int .i64 a0.k, va0]) := hG
              exact d_val (R := fun ρ w v => .int .i64 s8 = v) hw (wn rfl) (r_move hf rfl) rfl rfl hK
            · intro ρ w a hw hG hf hd K hK
              have o1 : Va ρ w 1 g1 28 ([.int .i64 a0.p, .int .i64 a0.n, .int .i64 a0.m, .int .i64 a0.k, va0]) := hG
              obtain ⟨_, ht, rfl⟩ := hd 2 (by kernel_rfl)
              replace hf := hf.more ht
              obtain ⟨_, ht, rfl⟩ := hd 3 (by kernel_rfl)
              replace hf := hf.more ht
              exact d_val (R := fun ρ w v => .pointer (some (ad11.add (s8.toNat * 27))) = v) hw (wn rfl) (r_idx Try.underlying26 sz78 hf rfl ⟨_, he11⟩ rfl hc10.1 hc10.2) rfl rfl hK
            · intro ρ w a hw hG hf hd K hK
              have o1 : Va ρ w 1 g1 28 ([.int .i64 a0.p, .int .i64 a0.n, .int .i64 a0.m, .int .i64 a0.k, va0]) := hG
              obtain ⟨_, ht, rfl⟩ := hd 4 (by kernel_rfl)
              replace hf := hf.more ht
              exact d_val (R := fun ρ w v => .agg (cProd.enc (gl zProd a0.ps s8)).toArray = v) hw (wn rfl) (r_load_agg ty78 hf rfl (hl11.below hw.below) (cProd.len _)) rfl rfl hK
          · intro ρ w a hw hG hf hd
            have o1 : Va ρ w 1 g1 28 ([.int .i64 a0.p, .int .i64 a0.n, .int .i64 a0.m, .int .i64 a0.k, va0]) := hG
            replace hf : Fr 35 a [(1, .pointer (some ((⟨g1, 0, none⟩ : Addr).add 0))), (3, .int .i64 s8)] := hf
            obtain ⟨_, ht, rfl⟩ := hd 0 (by decide)
            replace hf := hf.more ht
            obtain ⟨_, ht, rfl⟩ := hd 5 (by decide)
            replace hf := hf.more ht
            obtain ⟨x12, hx13, hF⟩ := of_bind hF
            refine st_fn 3 hw hf rfl rfl (by decide) (r_fn en128 hf rfl) (spec_l01Product_ok (a0 := a0) (h0.now hw) hx13) fun a v w ρ hf hw hE hN hΦ => ?_
            obtain rfl := hΦ
            replace o1 := o1.ext hE
            refine st hf rfl rfl (by decide) (r_not hf rfl) fun a hf => ?_
            refine c_nt ?_
            rcases of_ite hF with ⟨hb14, hF⟩ | ⟨hb14, hF⟩
            · refine c_ift hf rfl hb14 ?_
              refine c_seq ?_
              refine c_region ?_
              refine st hf rfl rfl (by decide) (r_assign hf rfl) fun a hf => ?_
              refine c_nt ?_
              refine c_retc ?_
              obtain rfl := Option.some.inj hF
              refine r_block ?_
              refine r_then ?_
              refine Rnd.rets fun ho => ?_
              subst ho
              have hF := hG7
              dsimp only at hF
              obtain rfl := Option.some.inj hF
              refine r_block ?_
              refine r_then ?_
              refine c_ret hf (res_tmp Try.results69 hf rfl) ?_
              exact ⟨_, rfl, hw.below, rfl⟩
            · refine c_iff hf rfl hb14 ?_
              refine c_skip ?_
              refine n_block ?_
              refine n_then ?_
              refine c_region ?_
              refine st hf rfl rfl (by decide) (r_move hf rfl) fun a hf => ?_
              refine st hf rfl rfl (by decide) (r_add hf rfl rfl) fun a hf => ?_
              refine st hf rfl rfl (by decide) (r_assign hf rfl) fun a hf => ?_
              refine c_nil ?_
              obtain rfl := Option.some.inj hF
              exact Rnd.goes ⟨_, hw, hf.sub ⟨rfl, rfl, trivial⟩, o1⟩
        · refine c_iff hf rfl hb9 ?_
          refine c_exit ?_
          refine x_then ?_
          obtain rfl := Option.some.inj hF
          exact Rnd.stops ⟨_, hw, hf.sub trivial⟩
      · rintro s8 a w hs ⟨ρ, hw, hf⟩
        subst hs
        replace hf : Fr 35 a [] := hf
        have hF := hG7
        dsimp only at hF
        refine x_block ?_
        refine n_then ?_
        refine c_seq ?_
        refine c_region ?_
        refine st hf rfl rfl (by decide) (r_assign hf rfl) fun a hf => ?_
        refine c_nt ?_
        refine c_retc ?_
        obtain rfl := Option.some.inj hF
        refine c_ret hf (res_tmp Try.results69 hf rfl) ?_
        exact ⟨_, rfl, hw.below, rfl⟩
end Go.Proofs.YtB
