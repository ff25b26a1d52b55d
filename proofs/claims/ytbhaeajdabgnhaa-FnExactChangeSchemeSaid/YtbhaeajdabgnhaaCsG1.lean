/- Functions of the program as plain functions, and that they compute these. Printed by gen.py. -/
import Derived.Test.YtbhaeajdabgnhaaCsT
set_option linter.unusedVariables false
set_option linter.unusedSimpArgs false
set_option maxRecDepth 4000
set_option maxHeartbeats 1000000
namespace Go.Proofs.YtB
open Go Go.RowKit Go.Proofs Go.Proofs.YtbhaeajdabgnhaaW.PrintWords
/-! f80 -/
noncomputable def laws_szProductS (a0 : List Prod) (a1 : Int) : Option Int :=
  if (decide ((w64 (a1 - (a0.length : Int))) < 0)) = true then (some ((-1))) else (some (w64 (a1 - (a0.length : Int))))
theorem laws_szProductS_ok {w0 : World} {a0 : List Prod} {a1 : Int} {va0 : Value} (h0 : Ro (kf cProd) w0 va0 a0) {r : Int} (hF : laws_szProductS a0 a1 = some r) :
    Calls Try.prog 80 [va0, vI a1].toArray w0 fun e w => ∃ v, e = .returned v ∧ Below w0.heap.size w0 w ∧ .int .i64 r = v := by
  refine calls_of (k := 12) Try.func80 rfl rfl (Nat.le_of_ble_eq_true rfl) fun a hf => ?_
  replace hf : Fr 12 a [(0, va0), (1, vI a1)] := hf
  refine c_start fun w ρ hw => ?_
  unfold laws_szProductS at hF
  refine c_seq <| c_region ?_
  refine s_ hf (r_assign hf rfl) fun a hf => ?_
  refine c_nt <| c_seq <| c_region ?_
  refine s_ hf (r_move hf rfl) fun a hf => ?_
  refine s_ hf (r_move hf rfl) fun a hf => ?_
  refine s_ hf (r_len Try.underlying46 (h0.now hw) hf rfl) fun a hf => ?_
  refine s_ hf (r_sub hf rfl rfl) fun a hf => ?_
  refine s_ hf (r_assign hf rfl) fun a hf => ?_
  refine c_nt <| c_seq <| c_seq <| c_region ?_
  refine s_ hf (r_move hf rfl) fun a hf => ?_
  refine s_ hf (r_lss hf rfl rfl) fun a hf => ?_
  refine c_nt ?_
  rcases of_ite hF with ⟨hb1, hF⟩ | ⟨hb1, hF⟩
  · refine c_ift hf rfl hb1 <| c_seq <| c_region ?_
    refine s_ hf (r_assign hf rfl) fun a hf => ?_
    refine c_nt <| c_retc ?_
    obtain rfl := Option.some.inj hF
    refine r_then <| c_ret hf (res_tmp Try.results80 hf rfl) ?_
    exact ⟨_, rfl, hw.below, rfl⟩
  refine c_iff hf rfl hb1 <| c_skip <| n_then <| c_seq <| c_region ?_
  refine s_ hf (r_move hf rfl) fun a hf => ?_
  refine s_ hf (r_assign hf rfl) fun a hf => ?_
  refine c_nt <| c_retc ?_
  obtain rfl := Option.some.inj hF
  refine c_ret hf (res_tmp Try.results80 hf rfl) ?_
  exact ⟨_, rfl, hw.below, rfl⟩
/-! f34 -/
noncomputable def laws_szScheme (a0 : Sch) (a1 : Int) : Option Int :=
  (laws_szProductS a0.ps a1).bind fun x1 => if (decide (x1 < 0)) = true then (some ((-1))) else (some (x1))
theorem laws_szScheme_ok {w0 : World} {a0 : Sch} {a1 : Int} {va0 : Value} (h0 : Ro (kf cProd) w0 va0 a0.ps) {r : Int} (hF : laws_szScheme a0 a1 = some r) :
    Calls Try.prog 34 [.agg ([vI a0.p, vI a0.n, vI a0.m, vI a0.k, va0]).toArray, vI a1].toArray w0 fun e w => ∃ v, e = .returned v ∧ Below w0.heap.size w0 w ∧ .int .i64 r = v := by
  refine calls_of (k := 12) Try.func34 rfl rfl (Nat.le_of_ble_eq_true rfl) fun a hf => ?_
  replace hf : Fr 12 a [(0, .agg ([vI a0.p, vI a0.n, vI a0.m, vI a0.k, va0]).toArray), (1, vI a1)] := hf
  refine c_start fun w ρ hw => ?_
  unfold laws_szScheme at hF
  refine c_seq <| c_region ?_
  refine sx_ hf (r_box (cs := [vI a0.p, vI a0.n, vI a0.m, vI a0.k, va0]) 1 hw hf rfl rfl) fun a v w hf hΦ => ?_
  obtain ⟨g1, ρ, rfl, hw, hE, o1⟩ := hΦ
  refine s_ hf (r_assign hf rfl) fun a hf => ?_
  refine c_nt <| c_seq <| c_region ?_
  refine s_ hf (r_fa fa48_4 hf rfl) fun a hf => ?_
  refine s_ hf (r_load_cell ty46 hf rfl (o1.cl.at_ 4 _ rfl)) fun a hf => ?_
  refine s_ hf (r_move hf rfl) fun a hf => ?_
  obtain ⟨x1, hx2, hF⟩ := of_bind hF
  refine st_fn 2 hw hf rfl rfl (by decide) (r_fn en80 hf rfl) (laws_szProductS_ok (h0.now hw) hx2) fun a v w ρ hf hw hE hN hΦ => ?_
  obtain rfl := hΦ
  replace o1 := o1.ext hE
  refine s_ hf (r_assign hf rfl) fun a hf => ?_
  refine c_nt <| c_seq <| c_seq <| c_region ?_
  refine s_ hf (r_move hf rfl) fun a hf => ?_
  refine s_ hf (r_lss hf rfl rfl) fun a hf => ?_
  refine c_nt ?_
  rcases of_ite hF with ⟨hb3, hF⟩ | ⟨hb3, hF⟩
  · refine c_ift hf rfl hb3 <| c_seq <| c_region ?_
    refine s_ hf (r_assign hf rfl) fun a hf => ?_
    refine c_nt <| c_retc ?_
    obtain rfl := Option.some.inj hF
    refine r_then <| c_ret hf (res_tmp Try.results34 hf rfl) ?_
    exact ⟨_, rfl, hw.below, rfl⟩
  refine c_iff hf rfl hb3 <| c_skip <| n_then <| c_seq <| c_region ?_
  refine s_ hf (r_move hf rfl) fun a hf => ?_
  refine s_ hf (r_assign hf rfl) fun a hf => ?_
  refine c_nt <| c_retc ?_
  obtain rfl := Option.some.inj hF
  refine c_ret hf (res_tmp Try.results34 hf rfl) ?_
  exact ⟨_, rfl, hw.below, rfl⟩
/-! f160 -/
noncomputable def laws_toForm_l1 (a0 : Form) (s2 : Int) (s3 : Form) : Option (LR (Int × Form) Form) :=
  if (decide (s2 < 9)) = true then (if 0 ≤ s2 ∧ s2 < 9 then (some (.next (w64 (s2 + 1), vs s3 s2 (vg 0 a0 s2)))) else none) else (some (.stop (s2, s3)))
noncomputable def laws_toForm (a0 : Form) : Option Form :=
  (iter (fun s => laws_toForm_l1 a0 s.1 s.2) (0, zForm)).bind fun o => match o with | .stop (s2, s3) => (some (s3)) | .ret r => some r | .next _ => none
theorem laws_toForm_ok {w0 : World} {a0 : Form}   {r : Form} (hF : laws_toForm a0 = some r) :
    Calls Try.prog 160 [.agg (cForm.enc a0).toArray].toArray w0 fun e w => ∃ v, e = .returned v ∧ Below w0.heap.size w0 w ∧ .agg (cForm.enc r).toArray = v := by
  refine calls_of (k := 15) Try.func160 rfl rfl (Nat.le_of_ble_eq_true rfl) fun a hf => ?_
  replace hf : Fr 15 a [(0, .agg (cForm.enc a0).toArray)] := hf
  refine c_start fun w ρ hw => ?_
  unfold laws_toForm at hF
  refine c_seq <| c_region ?_
  refine sx_ hf (r_box (cs := cForm.enc a0) 1 hw hf rfl rfl) fun a v w hf hΦ => ?_
  obtain ⟨g1, ρ, rfl, hw, hE, o1⟩ := hΦ
  refine sx_ hf (r_alloc (cs := cForm.enc zForm) 2 ze80 rfl hw) fun a v w hf hΦ => ?_
  obtain ⟨g2, ρ, rfl, hw, hE, o2⟩ := hΦ
  replace o1 := o1.ext hE
  refine c_nt <| c_seq <| c_region ?_
  refine sx_ hf (r_alloc (cs := cForm.enc zForm) 3 ze80 rfl hw) fun a v w hf hΦ => ?_
  obtain ⟨g3, ρ, rfl, hw, hE, o3⟩ := hΦ
  replace o1 := o1.ext hE
  replace o2 := o2.ext hE
  refine c_nt <| c_seq <| c_seq <| c_region ?_
  refine s_ hf (r_assign hf rfl) fun a hf => ?_
  refine c_nt ?_
  obtain ⟨ol1, ho1, hG1⟩ := of_bind hF
  clear hF
  refine c_block (c_loop (id := 0) (fun s => laws_toForm_l1 a0 s.1 s.2) (fun (s : Int × Form) a w => match s with | (s2, s3) => ∃ ρ, Wd w0 ρ w ∧ Fr 15 a [(1, .pointer (some ((⟨g1, 0, none⟩ : Addr).add 0))), (2, .pointer (some ((⟨g2, 0, none⟩ : Addr).add 0))), (3, .pointer (some ((⟨g3, 0, none⟩ : Addr).add 0))), (4, vI s2)] ∧ Va ρ w 1 g1 79 (cForm.enc a0) ∧ Va ρ w 2 g2 80 (cForm.enc zForm) ∧ Va ρ w 3 g3 80 (cForm.enc s3)) (fun (s : Int × Form) a w => match s with | (s2, s3) => ∃ ρ, Wd w0 ρ w ∧ Fr 15 a [(2, .pointer (some ((⟨g2, 0, none⟩ : Addr).add 0))), (3, .pointer (some ((⟨g3, 0, none⟩ : Addr).add 0)))] ∧ Va ρ w 2 g2 80 (cForm.enc zForm) ∧ Va ρ w 3 g3 80 (cForm.enc s3)) ho1 ⟨_, hw, hf.sub ⟨rfl, rfl, rfl, rfl, trivial⟩, o1, o2, o3⟩ ?_ ?_)
  · rintro ⟨s2, s3⟩ lr a w ⟨ρ, hw, hf, o1, o2, o3⟩ hF
    replace hF : laws_toForm_l1 a0 s2 s3 = some lr := hF
    unfold laws_toForm_l1 at hF
    refine c_seq <| c_seq <| c_region ?_
    refine s_ hf (r_move hf rfl) fun a hf => ?_
    refine s_ hf (r_lss hf rfl rfl) fun a hf => ?_
    refine c_nt ?_
    rcases of_ite hF with ⟨hb4, hF⟩ | ⟨hb4, hF⟩
    rotate_left
    · refine c_iff hf rfl hb4 <| c_exit <| x_then ?_
      obtain rfl := Option.some.inj hF
      exact Rnd.stops ⟨_, hw, hf.sub ⟨rfl, rfl, trivial⟩, o2, o3⟩
    refine c_ift hf rfl hb4 <| c_skip <| n_then <| c_seq <| c_block <| c_region ?_
    refine s_ hf (r_move hf rfl) fun a hf => ?_
    refine s_ hf (r_move hf rfl) fun a hf => ?_
    obtain ⟨hc5, hF⟩ := of_guard hF
    refine s_ hf (r_indexAddr_arr Try.underlying79 sz5 hf rfl rfl hc5.1 hc5.2) fun a hf => ?_
    refine s_ hf (r_load_cell ty5 hf rfl (o1.cl.lens (Lens.vec 0 fU8 s2 hc5.1 hc5.2))) fun a hf => ?_
    refine s_ hf (r_indexAddr_arr Try.underlying80 sz5 hf rfl rfl hc5.1 hc5.2) fun a hf => ?_
    refine sk_ hf (r_store_l (b := vg 0 a0 s2) hw o3 (by decide) (Lens.vec 0 fU8 s2 hc5.1 hc5.2) (by simp only [Nat.zero_add] <;> rfl) ty5 hf rfl rfl rfl) fun a w hf hΦ => ?_
    obtain ⟨hw, hA, o3⟩ := hΦ
    replace o1 := o1.adv hA (by decide)
    replace o2 := o2.adv hA (by decide)
    refine c_nil <| n_block <| n_then <| c_region ?_
    refine s_ hf (r_move hf rfl) fun a hf => ?_
    refine s_ hf (r_add hf rfl rfl) fun a hf => ?_
    refine s_ hf (r_assign hf rfl) fun a hf => ?_
    refine c_nil ?_
    obtain rfl := Option.some.inj hF
    exact Rnd.goes ⟨_, hw, hf.sub ⟨rfl, rfl, rfl, rfl, trivial⟩, o1, o2, o3⟩
  rintro ⟨s2, s3⟩ a w hs ⟨ρ, hw, hf, o2, o3⟩
  subst hs
  have hF := hG1
  dsimp only at hF
  refine x_block <| n_then <| c_seq <| c_region ?_
  refine s_ hf (r_load_agg ty80 hf rfl o3.cl (cForm.len _)) fun a hf => ?_
  refine sk_ hf (r_store_w (cs' := cForm.enc s3) hw o2 (by decide) ty80 (cForm.len _) (cForm.len _) (cForm.one _) hf rfl rfl rfl) fun a w hf hΦ => ?_
  obtain ⟨hw, hA, o2⟩ := hΦ
  replace o3 := o3.adv hA (by decide)
  refine c_nt <| c_retc ?_
  obtain rfl := Option.some.inj hF
  refine c_ret hf (res_cell Try.results160 ty80 hf rfl o2.cl (cForm.len _)) ?_
  exact ⟨_, rfl, hw.below, rfl⟩
/-! f128 -/
noncomputable def laws_toProduct (a0 : Prod) : Option Prod :=
  (laws_toForm a0.1).bind fun x1 => (laws_toForm a0.2.1).bind fun x3 => (laws_toForm a0.2.2).bind fun x5 => some ((((x1, zProd.2.1, zProd.2.2).1, x3, (x1, zProd.2.1, zProd.2.2).2.2).1, ((x1, zProd.2.1, zProd.2.2).1, x3, (x1, zProd.2.1, zProd.2.2).2.2).2.1, x5))
theorem laws_toProduct_ok {w0 : World} {a0 : Prod}   {r : Prod} (hF : laws_toProduct a0 = some r) :
    Calls Try.prog 128 [.agg (cProd.enc a0).toArray].toArray w0 fun e w => ∃ v, e = .returned v ∧ Below w0.heap.size w0 w ∧ .agg (cProd.enc r).toArray = v := by
  refine calls_of (k := 17) Try.func128 rfl rfl (Nat.le_of_ble_eq_true rfl) fun a hf => ?_
  replace hf : Fr 17 a [(0, .agg (cProd.enc a0).toArray)] := hf
  refine c_start fun w ρ hw => ?_
  unfold laws_toProduct at hF
  refine c_seq <| c_region ?_
  refine sx_ hf (r_box (cs := cProd.enc a0) 1 hw hf rfl rfl) fun a v w hf hΦ => ?_
  obtain ⟨g1, ρ, rfl, hw, hE, o1⟩ := hΦ
  refine sx_ hf (r_alloc (cs := cProd.enc zProd) 2 ze82 rfl hw) fun a v w hf hΦ => ?_
  obtain ⟨g2, ρ, rfl, hw, hE, o2⟩ := hΦ
  replace o1 := o1.ext hE
  refine c_nt <| c_seq <| c_region ?_
  refine sx_ hf (r_alloc (cs := cProd.enc zProd) 3 ze82 rfl hw) fun a v w hf hΦ => ?_
  obtain ⟨g3, ρ, rfl, hw, hE, o3⟩ := hΦ
  replace o1 := o1.ext hE
  replace o2 := o2.ext hE
  refine c_nt <| c_seq <| c_region ?_
  refine s_ hf (r_fa fa128_0 hf rfl) fun a hf => ?_
  refine s_ hf (r_load_agg ty79 hf rfl (o1.cl.lens lProd_0) (cForm.len _)) fun a hf => ?_
  obtain ⟨x1, hx2, hF⟩ := of_bind hF
  refine st_fn 4 hw hf rfl rfl (by decide) (r_fn en160 hf rfl) (laws_toForm_ok  hx2) fun a v w ρ hf hw hE hN hΦ => ?_
  obtain rfl := hΦ
  replace o1 := o1.ext hE
  replace o2 := o2.ext hE
  replace o3 := o3.ext hE
  refine s_ hf (r_fa fa82_0 hf rfl) fun a hf => ?_
  refine sk_ hf (r_store_l (b := x1) hw o3 (by decide) lProd_0 (by simp only [Nat.zero_add] <;> rfl) ty80 hf rfl rfl rfl) fun a w hf hΦ => ?_
  obtain ⟨hw, hA, o3⟩ := hΦ
  replace o1 := o1.adv hA (by decide)
  replace o2 := o2.adv hA (by decide)
  refine c_nt <| c_seq <| c_region ?_
  refine s_ hf (r_fa fa128_1 hf rfl) fun a hf => ?_
  refine s_ hf (r_load_agg ty79 hf rfl (o1.cl.lens lProd_1) (cForm.len _)) fun a hf => ?_
  obtain ⟨x3, hx4, hF⟩ := of_bind hF
  refine st_fn 5 hw hf rfl rfl (by decide) (r_fn en160 hf rfl) (laws_toForm_ok  hx4) fun a v w ρ hf hw hE hN hΦ => ?_
  obtain rfl := hΦ
  replace o1 := o1.ext hE
  replace o2 := o2.ext hE
  replace o3 := o3.ext hE
  refine s_ hf (r_fa fa82_1 hf rfl) fun a hf => ?_
  refine sk_ hf (r_store_l (b := x3) hw o3 (by decide) lProd_1 (by simp only [Nat.zero_add] <;> rfl) ty80 hf rfl rfl rfl) fun a w hf hΦ => ?_
  obtain ⟨hw, hA, o3⟩ := hΦ
  replace o1 := o1.adv hA (by decide)
  replace o2 := o2.adv hA (by decide)
  refine c_nt <| c_seq <| c_region ?_
  refine s_ hf (r_fa fa128_2 hf rfl) fun a hf => ?_
  refine s_ hf (r_load_agg ty79 hf rfl (o1.cl.lens lProd_2) (cForm.len _)) fun a hf => ?_
  obtain ⟨x5, hx6, hF⟩ := of_bind hF
  refine st_fn 6 hw hf rfl rfl (by decide) (r_fn en160 hf rfl) (laws_toForm_ok  hx6) fun a v w ρ hf hw hE hN hΦ => ?_
  obtain rfl := hΦ
  replace o1 := o1.ext hE
  replace o2 := o2.ext hE
  replace o3 := o3.ext hE
  refine s_ hf (r_fa fa82_2 hf rfl) fun a hf => ?_
  refine sk_ hf (r_store_l (b := x5) hw o3 (by decide) lProd_2 (by simp only [Nat.zero_add] <;> rfl) ty80 hf rfl rfl rfl) fun a w hf hΦ => ?_
  obtain ⟨hw, hA, o3⟩ := hΦ
  replace o1 := o1.adv hA (by decide)
  replace o2 := o2.adv hA (by decide)
  refine c_nt <| c_seq <| c_region ?_
  refine s_ hf (r_load_agg ty82 hf rfl o3.cl (cProd.len _)) fun a hf => ?_
  refine sk_ hf (r_store_w (cs' := cProd.enc (((x1, zProd.2.1, zProd.2.2).1, x3, (x1, zProd.2.1, zProd.2.2).2.2).1, ((x1, zProd.2.1, zProd.2.2).1, x3, (x1, zProd.2.1, zProd.2.2).2.2).2.1, x5)) hw o2 (by decide) ty82 (cProd.len _) (cProd.len _) (cProd.one _) hf rfl rfl rfl) fun a w hf hΦ => ?_
  obtain ⟨hw, hA, o2⟩ := hΦ
  replace o1 := o1.adv hA (by decide)
  replace o3 := o3.adv hA (by decide)
  refine c_nt <| c_retc ?_
  obtain rfl := Option.some.inj hF
  refine c_ret hf (res_cell Try.results128 ty82 hf rfl o2.cl (cProd.len _)) ?_
  exact ⟨_, rfl, hw.below, rfl⟩
/-! f83 -/
noncomputable def laws_toProductS_l2 (a0 : List Prod) (s3 : Int) (s4 : List Prod) : Option (LR (Int × (List Prod)) (List Prod)) :=
  if (decide (s3 < (a0.length : Int))) = true then (if 0 ≤ s3 ∧ s3 < (a0.length : Int) then ((laws_toProduct (gl zProd a0 s3)).bind fun x8 => if 0 ≤ s3 ∧ s3 < (s4.length : Int) then (some (.next (w64 (s3 + 1), (s4.set s3.toNat x8)))) else none) else none) else (some (.stop (s3, s4)))
noncomputable def laws_toProductS (a0 : List Prod) : Option (List Prod) :=
  if 0 ≤ (a0.length : Int) ∧ (a0.length : Int) * 27 ≤ 281474976710656 then ((iter (fun s => laws_toProductS_l2 a0 s.1 s.2) (0, (List.replicate (a0.length : Int).toNat (zProd : Prod)))).bind fun o => match o with | .stop (s3, s4) => (some (s4)) | .ret r => some r | .next _ => none) else none
theorem laws_toProductS_ok {w0 : World} {a0 : List Prod} {va0 : Value} (h0 : Ro (kf cProd) w0 va0 a0) {r : List Prod} (hF : laws_toProductS a0 = some r) :
    Calls Try.prog 83 [va0].toArray w0 fun e w => ∃ v, e = .returned v ∧ Below w0.heap.size w0 w ∧ ∃ u0, u0 = v ∧ Fresh (kf cProd) 82 w0 w u0 r := by
  refine calls_of (k := 23) Try.func83 rfl rfl (Nat.le_of_ble_eq_true rfl) fun a hf => ?_
  replace hf : Fr 23 a [(0, va0)] := hf
  refine c_start fun w ρ hw => ?_
  unfold laws_toProductS at hF
  refine c_seq <| c_region ?_
  have o1 : Ow (kf cProd) 82 ρ w w0.heap.size 1 (.slice none 0 0) [] := Ow.nil _ _ _ _ _ _
  refine s_ hf (r_assign hf rfl) fun a hf => ?_
  refine c_nt <| c_seq <| c_region ?_
  refine s_ hf (r_move hf rfl) fun a hf => ?_
  refine s_ hf (r_len Try.underlying46 (h0.now hw) hf rfl) fun a hf => ?_
  obtain ⟨hc1, hF⟩ := of_guard hF
  refine sx_ hf (r_make (d := cProd) (z0 := zProd) 2 Try.underlying37 el82 rfl hw hf rfl hc1.1 (mk_le hc1.1 hc1.2)) fun a v2 w hf hΦ => ?_
  obtain ⟨ρ, hw, hE, o2⟩ := hΦ
  replace o1 := o1.ext hE
  refine s_ hf (r_assign hf rfl) fun a hf => ?_
  refine c_nt <| c_seq <| c_seq <| c_region ?_
  refine s_ hf (r_assign hf rfl) fun a hf => ?_
  refine c_nt ?_
  obtain ⟨ol2, ho2, hG2⟩ := of_bind hF
  clear hF
  refine c_block (c_loop (id := 0) (fun s => laws_toProductS_l2 a0 s.1 s.2) (fun (s : Int × (List Prod)) a w => match s with | (s3, s4) => ∃ ρ, Wd w0 ρ w ∧ Fr 23 a [(0, va0), (3, v2), (4, vI s3)] ∧ O82 ρ w w0 2 v2 s4) (fun (s : Int × (List Prod)) a w => match s with | (s3, s4) => ∃ ρ, Wd w0 ρ w ∧ Fr 23 a [(3, v2)] ∧ O82 ρ w w0 2 v2 s4) ho2 ⟨_, hw, hf.sub ⟨rfl, rfl, rfl, trivial⟩, o2⟩ ?_ ?_)
  · rintro ⟨s3, s4⟩ lr a w ⟨ρ, hw, hf, o2⟩ hF
    replace hF : laws_toProductS_l2 a0 s3 s4 = some lr := hF
    unfold laws_toProductS_l2 at hF
    refine c_seq <| c_seq <| c_region ?_
    refine s_ hf (r_move hf rfl) fun a hf => ?_
    refine s_ hf (r_move hf rfl) fun a hf => ?_
    refine s_ hf (r_len Try.underlying46 (h0.now hw) hf rfl) fun a hf => ?_
    refine s_ hf (r_lss hf rfl rfl) fun a hf => ?_
    refine c_nt ?_
    rcases of_ite hF with ⟨hb5, hF⟩ | ⟨hb5, hF⟩
    rotate_left
    · refine c_iff hf rfl hb5 <| c_exit <| x_then ?_
      obtain rfl := Option.some.inj hF
      exact Rnd.stops ⟨_, hw, hf.sub ⟨rfl, trivial⟩, o2⟩
    refine c_ift hf rfl hb5 <| c_skip <| n_then <| c_seq <| c_block <| c_region ?_
    refine s_ hf (r_move hf rfl) fun a hf => ?_
    refine s_ hf (r_move hf rfl) fun a hf => ?_
    refine s_ hf (r_move hf rfl) fun a hf => ?_
    refine s_ hf (r_move hf rfl) fun a hf => ?_
    obtain ⟨hc6, hF⟩ := of_guard hF
    obtain ⟨ad7, c7, he7, hl7⟩ := Ro.el cProd h0 zProd hc6.1 hc6.2
    refine s_ hf (r_idx Try.underlying46 sz128 hf rfl ⟨_, he7⟩ rfl hc6.1 hc6.2) fun a hf => ?_
    refine s_ hf (r_load_agg ty128 hf rfl (hl7.below hw.below) (cProd.len _)) fun a hf => ?_
    obtain ⟨x8, hx9, hF⟩ := of_bind hF
    refine st_fn 3 hw hf rfl rfl (by decide) (r_fn en128 hf rfl) (laws_toProduct_ok  hx9) fun a v w ρ hf hw hE hN hΦ => ?_
    obtain rfl := hΦ
    replace o2 := o2.ext hE
    obtain ⟨hc10, hF⟩ := of_guard hF
    obtain ⟨ad11, hl11⟩ := Ow.ce (d := cProd) o2 zProd hc10.1 hc10.2
    refine s_ hf (r_idx Try.underlying37 sz82 hf rfl hl11.at_ rfl hc10.1 hc10.2) fun a hf => ?_
    refine sk_ hf (r_store_ec (b := x8) zProd hw (by decide) o2 hc10.1 hc10.2 (Lens.id _) hl11.at_ ty82 (by first | rfl | exact Nat.add_assoc _ _ _ | (simp only [Nat.add_assoc]; rfl)) hf rfl rfl rfl) fun a w hf hΦ => ?_
    obtain ⟨hw, hA, o2⟩ := hΦ
    refine c_nil <| n_block <| n_then <| c_region ?_
    refine s_ hf (r_move hf rfl) fun a hf => ?_
    refine s_ hf (r_add hf rfl rfl) fun a hf => ?_
    refine s_ hf (r_assign hf rfl) fun a hf => ?_
    refine c_nil ?_
    obtain rfl := Option.some.inj hF
    exact Rnd.goes ⟨_, hw, hf.sub ⟨rfl, rfl, rfl, trivial⟩, o2⟩
  rintro ⟨s3, s4⟩ a w hs ⟨ρ, hw, hf, o2⟩
  subst hs
  have hF := hG2
  dsimp only at hF
  refine x_block <| n_then <| c_seq <| c_region ?_
  refine s_ hf (r_move hf rfl) fun a hf => ?_
  refine s_ hf (r_assign hf rfl) fun a hf => ?_
  refine c_nt <| c_retc ?_
  obtain rfl := Option.some.inj hF
  refine c_ret hf (res_tmp Try.results83 hf rfl) ?_
  exact ⟨_, rfl, hw.below, ⟨_, rfl, o2.out⟩⟩
/-! f36 -/
noncomputable def laws_toScheme (a0 : Sch) : Option Sch :=
  (laws_toProductS a0.ps).bind fun x1 => some ((⟨a0.p, a0.n, a0.m, a0.k, x1⟩ : Sch))
theorem laws_toScheme_ok {w0 : World} {a0 : Sch} {va0 : Value} (h0 : Ro (kf cProd) w0 va0 a0.ps) {r : Sch} (hF : laws_toScheme a0 = some r) :
    Calls Try.prog 36 [.agg ([vI a0.p, vI a0.n, vI a0.m, vI a0.k, va0]).toArray].toArray w0 fun e w => ∃ v, e = .returned v ∧ Below w0.heap.size w0 w ∧ ∃ u0, .agg [.int .i64 r.p, .int .i64 r.n, .int .i64 r.m, .int .i64 r.k, u0].toArray = v ∧ Fresh (kf cProd) 82 w0 w u0 r.ps := by
  refine calls_of (k := 21) Try.func36 rfl rfl (Nat.le_of_ble_eq_true rfl) fun a hf => ?_
  replace hf : Fr 21 a [(0, .agg ([vI a0.p, vI a0.n, vI a0.m, vI a0.k, va0]).toArray)] := hf
  refine c_start fun w ρ hw => ?_
  unfold laws_toScheme at hF
  refine c_seq <| c_region ?_
  refine sx_ hf (r_box (cs := [vI a0.p, vI a0.n, vI a0.m, vI a0.k, va0]) 1 hw hf rfl rfl) fun a v w hf hΦ => ?_
  obtain ⟨g1, ρ, rfl, hw, hE, o1⟩ := hΦ
  have o3 : Ow (kf cProd) 82 ρ w w0.heap.size 3 (.slice none 0 0) [] := Ow.nil _ _ _ _ _ _
  refine sx_ hf (r_alloc (cs := [vI 0, vI 0, vI 0, vI 0, (.slice none 0 0)]) 2 ze39 rfl hw) fun a v w hf hΦ => ?_
  obtain ⟨g2, ρ, rfl, hw, hE, o2⟩ := hΦ
  replace o1 := o1.ext hE
  replace o3 := o3.ext hE
  refine c_nt <| c_seq <| c_region ?_
  have o5 : Ow (kf cProd) 82 ρ w w0.heap.size 5 (.slice none 0 0) [] := Ow.nil _ _ _ _ _ _
  refine sx_ hf (r_alloc (cs := [vI 0, vI 0, vI 0, vI 0, (.slice none 0 0)]) 4 ze39 rfl hw) fun a v w hf hΦ => ?_
  obtain ⟨g4, ρ, rfl, hw, hE, o4⟩ := hΦ
  replace o1 := o1.ext hE
  replace o3 := o3.ext hE
  replace o2 := o2.ext hE
  replace o5 := o5.ext hE
  refine c_nt <| c_seq <| c_region ?_
  refine s_ hf (r_fa fa48_0 hf rfl) fun a hf => ?_
  refine s_ hf (r_load_cell ty2 hf rfl (o1.cl.at_ 0 _ rfl)) fun a hf => ?_
  refine s_ hf (r_fa fa39_0 hf rfl) fun a hf => ?_
  refine sk_ hf (r_store_c hw o4 (by decide) ty2 (Nat.le_of_ble_eq_true rfl) hf rfl rfl rfl rfl) fun a w hf hΦ => ?_
  obtain ⟨hw, hA, o4⟩ := hΦ
  replace o1 := o1.adv hA (by decide)
  replace o3 := o3.adv hA (by decide)
  replace o2 := o2.adv hA (by decide)
  replace o5 := o5.adv hA (by decide)
  replace o4 : Va ρ w 4 g4 39 ([vI a0.p, vI 0, vI 0, vI 0, (.slice none 0 0)]) := o4
  refine c_nt <| c_seq <| c_region ?_
  refine s_ hf (r_fa fa48_1 hf rfl) fun a hf => ?_
  refine s_ hf (r_load_cell ty2 hf rfl (o1.cl.at_ 1 _ rfl)) fun a hf => ?_
  refine s_ hf (r_fa fa39_1 hf rfl) fun a hf => ?_
  refine sk_ hf (r_store_c hw o4 (by decide) ty2 (Nat.le_of_ble_eq_true rfl) hf rfl rfl rfl rfl) fun a w hf hΦ => ?_
  obtain ⟨hw, hA, o4⟩ := hΦ
  replace o1 := o1.adv hA (by decide)
  replace o3 := o3.adv hA (by decide)
  replace o2 := o2.adv hA (by decide)
  replace o5 := o5.adv hA (by decide)
  replace o4 : Va ρ w 4 g4 39 ([vI a0.p, vI a0.n, vI 0, vI 0, (.slice none 0 0)]) := o4
  refine c_nt <| c_seq <| c_region ?_
  refine s_ hf (r_fa fa48_2 hf rfl) fun a hf => ?_
  refine s_ hf (r_load_cell ty2 hf rfl (o1.cl.at_ 2 _ rfl)) fun a hf => ?_
  refine s_ hf (r_fa fa39_2 hf rfl) fun a hf => ?_
  refine sk_ hf (r_store_c hw o4 (by decide) ty2 (Nat.le_of_ble_eq_true rfl) hf rfl rfl rfl rfl) fun a w hf hΦ => ?_
  obtain ⟨hw, hA, o4⟩ := hΦ
  replace o1 := o1.adv hA (by decide)
  replace o3 := o3.adv hA (by decide)
  replace o2 := o2.adv hA (by decide)
  replace o5 := o5.adv hA (by decide)
  replace o4 : Va ρ w 4 g4 39 ([vI a0.p, vI a0.n, vI a0.m, vI 0, (.slice none 0 0)]) := o4
  refine c_nt <| c_seq <| c_region ?_
  refine s_ hf (r_fa fa48_3 hf rfl) fun a hf => ?_
  refine s_ hf (r_load_cell ty2 hf rfl (o1.cl.at_ 3 _ rfl)) fun a hf => ?_
  refine s_ hf (r_fa fa39_3 hf rfl) fun a hf => ?_
  refine sk_ hf (r_store_c hw o4 (by decide) ty2 (Nat.le_of_ble_eq_true rfl) hf rfl rfl rfl rfl) fun a w hf hΦ => ?_
  obtain ⟨hw, hA, o4⟩ := hΦ
  replace o1 := o1.adv hA (by decide)
  replace o3 := o3.adv hA (by decide)
  replace o2 := o2.adv hA (by decide)
  replace o5 := o5.adv hA (by decide)
  replace o4 : Va ρ w 4 g4 39 ([vI a0.p, vI a0.n, vI a0.m, vI a0.k, (.slice none 0 0)]) := o4
  refine c_nt <| c_seq <| c_region ?_
  refine s_ hf (r_fa fa48_4 hf rfl) fun a hf => ?_
  refine s_ hf (r_load_cell ty46 hf rfl (o1.cl.at_ 4 _ rfl)) fun a hf => ?_
  obtain ⟨x1, hx2, hF⟩ := of_bind hF
  refine st_fn 6 hw hf rfl rfl (by decide) (r_fn en83 hf rfl) (laws_toProductS_ok (h0.now hw) hx2) fun a v w ρ hf hw hE hN hΦ => ?_
  obtain ⟨u3, rfl, hr4⟩ := hΦ
  replace o1 := o1.ext hE
  replace o3 := o3.ext hE
  replace o2 := o2.ext hE
  replace o5 := o5.ext hE
  replace o4 := o4.ext hE
  have o6 := hN hr4
  refine s_ hf (r_fa fa39_4 hf rfl) fun a hf => ?_
  refine sk_ hf (r_store_c hw o4 (by decide) ty37 (Nat.le_of_ble_eq_true rfl) hf rfl rfl o6.ro.cells1 o6.ro.one) fun a w hf hΦ => ?_
  obtain ⟨hw, hA, o4⟩ := hΦ
  replace o1 := o1.adv hA (by decide)
  replace o3 := o3.adv hA (by decide)
  replace o2 := o2.adv hA (by decide)
  replace o5 := o5.adv hA (by decide)
  replace o6 := o6.adv hA (by decide)
  replace o4 : Va ρ w 4 g4 39 ([vI a0.p, vI a0.n, vI a0.m, vI a0.k, u3]) := o4
  refine c_nt <| c_seq <| c_region ?_
  refine s_ hf (r_load_agg ty39 hf rfl o4.cl rfl) fun a hf => ?_
  refine sk_ hf (r_store_w (cs' := [vI a0.p, vI a0.n, vI a0.m, vI a0.k, u3]) hw o2 (by decide) ty39 rfl rfl (one_sch o6.ro.one) hf rfl rfl rfl) fun a w hf hΦ => ?_
  obtain ⟨hw, hA, o2⟩ := hΦ
  replace o1 := o1.adv hA (by decide)
  replace o3 := o3.adv hA (by decide)
  replace o5 := o5.adv hA (by decide)
  replace o4 := o4.adv hA (by decide)
  replace o6 := o6.adv hA (by decide)
  refine c_nt <| c_retc ?_
  obtain rfl := Option.some.inj hF
  refine c_ret hf (res_cell Try.results36 ty39 hf rfl o2.cl rfl) ?_
  exact ⟨_, rfl, hw.below, ⟨_, rfl, o6.out⟩⟩
/-! f176 -/
noncomputable def laws_eqForm_l1 (a0 : Form) (a1 : Form) (s2 : Int) : Option (LR Int Bool) :=
  if (decide (s2 < 9)) = true then (if 0 ≤ s2 ∧ s2 < 9 then (if (decide (((vg 0 a0 s2).toNat : Int) ≠ ((vg 0 a1 s2).toNat : Int))) = true then (some (.ret false)) else (some (.next (w64 (s2 + 1))))) else none) else (some (.stop s2))
noncomputable def laws_eqForm (a0 : Form) (a1 : Form) : Option Bool :=
  (iter (fun s => laws_eqForm_l1 a0 a1 s) 0).bind fun o => match o with | .stop s2 => (some (true)) | .ret r => some r | .next _ => none
theorem laws_eqForm_ok {w0 : World} {a0 : Form} {a1 : Form}   {r : Bool} (hF : laws_eqForm a0 a1 = some r) :
    Calls Try.prog 176 [.agg (cForm.enc a0).toArray, .agg (cForm.enc a1).toArray].toArray w0 fun e w => ∃ v, e = .returned v ∧ Below w0.heap.size w0 w ∧ .bool r = v := by
  refine calls_of (k := 17) Try.func176 rfl rfl (Nat.le_of_ble_eq_true rfl) fun a hf => ?_
  replace hf : Fr 17 a [(0, .agg (cForm.enc a0).toArray), (1, .agg (cForm.enc a1).toArray)] := hf
  refine c_start fun w ρ hw => ?_
  unfold laws_eqForm at hF
  refine c_seq <| c_region ?_
  refine sx_ hf (r_box (cs := cForm.enc a0) 1 hw hf rfl rfl) fun a v w hf hΦ => ?_
  obtain ⟨g1, ρ, rfl, hw, hE, o1⟩ := hΦ
  refine sx_ hf (r_box (cs := cForm.enc a1) 2 hw hf rfl rfl) fun a v w hf hΦ => ?_
  obtain ⟨g2, ρ, rfl, hw, hE, o2⟩ := hΦ
  replace o1 := o1.ext hE
  refine s_ hf (r_assign hf rfl) fun a hf => ?_
  refine c_nt <| c_seq <| c_seq <| c_region ?_
  refine s_ hf (r_assign hf rfl) fun a hf => ?_
  refine c_nt ?_
  obtain ⟨ol1, ho1, hG1⟩ := of_bind hF
  clear hF
  refine c_block (c_loop (id := 0) (fun s => laws_eqForm_l1 a0 a1 s) (fun (s2 : Int) a w => ∃ ρ, Wd w0 ρ w ∧ Fr 17 a [(2, .pointer (some ((⟨g1, 0, none⟩ : Addr).add 0))), (3, .pointer (some ((⟨g2, 0, none⟩ : Addr).add 0))), (5, vI s2)] ∧ Va ρ w 1 g1 80 (cForm.enc a0) ∧ Va ρ w 2 g2 80 (cForm.enc a1)) (fun (s2 : Int) a w => ∃ ρ, Wd w0 ρ w ∧ Fr 17 a []) ho1 ⟨_, hw, hf.sub ⟨rfl, rfl, rfl, trivial⟩, o1, o2⟩ ?_ ?_)
  · rintro s2 lr a w ⟨ρ, hw, hf, o1, o2⟩ hF
    replace hF : laws_eqForm_l1 a0 a1 s2 = some lr := hF
    unfold laws_eqForm_l1 at hF
    refine c_seq <| c_seq <| c_region ?_
    refine s_ hf (r_move hf rfl) fun a hf => ?_
    refine s_ hf (r_lss hf rfl rfl) fun a hf => ?_
    refine c_nt ?_
    rcases of_ite hF with ⟨hb3, hF⟩ | ⟨hb3, hF⟩
    rotate_left
    · refine c_iff hf rfl hb3 <| c_exit <| x_then ?_
      obtain rfl := Option.some.inj hF
      exact Rnd.stops ⟨_, hw, hf.sub trivial⟩
    refine c_ift hf rfl hb3 <| c_skip <| n_then <| c_seq <| c_block <| c_seq ?_
    obtain ⟨hc4, hF⟩ := of_guard hF
    replace hf : Fr 17 a [(2, .pointer (some ((⟨g1, 0, none⟩ : Addr).add 0))), (3, .pointer (some ((⟨g2, 0, none⟩ : Addr).add 0))), (5, vI s2)] := hf.sub ⟨rfl, rfl, rfl, trivial⟩
    refine c_drawL (h := 6) mixed (by kernel_rfl) (by kernel_rfl) (fun ρ w => Va ρ w 1 g1 80 (cForm.enc a0) ∧ Va ρ w 2 g2 80 (cForm.enc a1)) ?_ [fun ρ w v => vI s2 = v, fun ρ w v => .pointer (some ((⟨g1, 0, none⟩ : Addr).add (0 + s2.toNat * 1))) = v, fun ρ w v => vB (vg 0 a0 s2) = v, fun ρ w v => vI s2 = v, fun ρ w v => .pointer (some ((⟨g2, 0, none⟩ : Addr).add (0 + s2.toNat * 1))) = v, fun ρ w v => vB (vg 0 a1 s2) = v] ?_ hw ⟨o1, o2⟩ hf ?_ ?_
    · intro ρ w ρ' w' hE hG
      obtain ⟨o1, o2⟩ := hG
      exact ⟨o1.ext hE, o2.ext hE⟩
    · exact LastsL.cons (fun _ _ _ _ _ _ h => h) <| LastsL.cons (fun _ _ _ _ _ _ h => h) <| LastsL.cons (fun _ _ _ _ _ _ h => h) <| LastsL.cons (fun _ _ _ _ _ _ h => h) <| LastsL.cons (fun _ _ _ _ _ _ h => h) <| LastsL.cons (fun _ _ _ _ _ _ h => h) <| LastsL.nil
    · refine StepsB.cons ?_ <| StepsB.cons ?_ <| StepsB.cons ?_ <| StepsB.cons ?_ <| StepsB.cons ?_ <| StepsB.cons ?_ <| StepsB.nil
      · intro ρ w a hw hG hf hd K hK
        obtain ⟨o1, o2⟩ := hG
        exact dv_ hK hw (wn rfl) (r_move hf rfl) rfl
      · intro ρ w a hw hG hf hd K hK
        obtain ⟨o1, o2⟩ := hG
        obtain ⟨_, hf, rfl⟩ := got (hd 0 (by kernel_rfl)) hf
        exact dv_ hK hw (wn rfl) (r_indexAddr_arr Try.underlying80 sz5 hf rfl rfl hc4.1 hc4.2) rfl
      · intro ρ w a hw hG hf hd K hK
        obtain ⟨o1, o2⟩ := hG
        obtain ⟨_, hf, rfl⟩ := got (hd 1 (by kernel_rfl)) hf
        exact dv_ hK hw (wn rfl) (r_load_cell ty5 hf rfl (o1.cl.lens (Lens.vec 0 fU8 s2 hc4.1 hc4.2))) rfl
      · intro ρ w a hw hG hf hd K hK
        obtain ⟨o1, o2⟩ := hG
        exact dv_ hK hw (wn rfl) (r_move hf rfl) rfl
      · intro ρ w a hw hG hf hd K hK
        obtain ⟨o1, o2⟩ := hG
        obtain ⟨_, hf, rfl⟩ := got (hd 3 (by kernel_rfl)) hf
        exact dv_ hK hw (wn rfl) (r_indexAddr_arr Try.underlying80 sz5 hf rfl rfl hc4.1 hc4.2) rfl
      · intro ρ w a hw hG hf hd K hK
        obtain ⟨o1, o2⟩ := hG
        obtain ⟨_, hf, rfl⟩ := got (hd 4 (by kernel_rfl)) hf
        exact dv_ hK hw (wn rfl) (r_load_cell ty5 hf rfl (o2.cl.lens (Lens.vec 0 fU8 s2 hc4.1 hc4.2))) rfl
    intro ρ w a hw hG hf hd
    obtain ⟨o1, o2⟩ := hG
    obtain ⟨_, hf, rfl⟩ := got (hd 2 (by decide)) hf
    obtain ⟨_, hf, rfl⟩ := got (hd 5 (by decide)) hf
    refine s_ hf (r_neq hf rfl rfl) fun a hf => ?_
    refine c_nt ?_
    rcases of_ite hF with ⟨hb5, hF⟩ | ⟨hb5, hF⟩
    rotate_left
    · refine c_iff hf rfl hb5 <| c_skip <| n_block <| n_then <| c_region ?_
      refine s_ hf (r_move hf rfl) fun a hf => ?_
      refine s_ hf (r_add hf rfl rfl) fun a hf => ?_
      refine s_ hf (r_assign hf rfl) fun a hf => ?_
      refine c_nil ?_
      obtain rfl := Option.some.inj hF
      exact Rnd.goes ⟨_, hw, hf.sub ⟨rfl, rfl, rfl, trivial⟩, o1, o2⟩
    refine c_ift hf rfl hb5 <| c_seq <| c_region ?_
    refine s_ hf (r_assign hf rfl) fun a hf => ?_
    refine c_nt <| c_retc ?_
    obtain rfl := Option.some.inj hF
    refine r_block <| r_then ?_
    refine Rnd.rets fun ho => ?_
    subst ho
    have hF := hG1
    dsimp only at hF
    obtain rfl := Option.some.inj hF
    refine r_block <| r_then <| c_ret hf (res_tmp Try.results176 hf rfl) ?_
    exact ⟨_, rfl, hw.below, rfl⟩
  rintro s2 a w hs ⟨ρ, hw, hf⟩
  subst hs
  have hF := hG1
  dsimp only at hF
  refine x_block <| n_then <| c_seq <| c_region ?_
  refine s_ hf (r_assign hf rfl) fun a hf => ?_
  refine c_nt <| c_retc ?_
  obtain rfl := Option.some.inj hF
  refine c_ret hf (res_tmp Try.results176 hf rfl) ?_
  exact ⟨_, rfl, hw.below, rfl⟩
/-! f135 -/
noncomputable def laws_eqProduct (a0 : Prod) (a1 : Prod) : Option Bool :=
  (laws_eqForm a0.1 a1.1).bind fun x1 => if (!x1) = true then (some (false)) else ((laws_eqForm a0.2.1 a1.2.1).bind fun x4 => if (!x4) = true then (some (false)) else ((laws_eqForm a0.2.2 a1.2.2).bind fun x7 => if (!x7) = true then (some (false)) else (some (true))))
theorem laws_eqProduct_ok {w0 : World} {a0 : Prod} {a1 : Prod}   {r : Bool} (hF : laws_eqProduct a0 a1 = some r) :
    Calls Try.prog 135 [.agg (cProd.enc a0).toArray, .agg (cProd.enc a1).toArray].toArray w0 fun e w => ∃ v, e = .returned v ∧ Below w0.heap.size w0 w ∧ .bool r = v := by
  refine calls_of (k := 23) Try.func135 rfl rfl (Nat.le_of_ble_eq_true rfl) fun a hf => ?_
  replace hf : Fr 23 a [(0, .agg (cProd.enc a0).toArray), (1, .agg (cProd.enc a1).toArray)] := hf
  refine c_start fun w ρ hw => ?_
  unfold laws_eqProduct at hF
  refine c_seq <| c_region ?_
  refine sx_ hf (r_box (cs := cProd.enc a0) 1 hw hf rfl rfl) fun a v w hf hΦ => ?_
  obtain ⟨g1, ρ, rfl, hw, hE, o1⟩ := hΦ
  refine sx_ hf (r_box (cs := cProd.enc a1) 2 hw hf rfl rfl) fun a v w hf hΦ => ?_
  obtain ⟨g2, ρ, rfl, hw, hE, o2⟩ := hΦ
  replace o1 := o1.ext hE
  refine s_ hf (r_assign hf rfl) fun a hf => ?_
  refine c_nt <| c_seq <| c_seq <| c_region ?_
  refine s_ hf (r_fa fa82_0 hf rfl) fun a hf => ?_
  refine s_ hf (r_load_agg ty80 hf rfl (o1.cl.lens lProd_0) (cForm.len _)) fun a hf => ?_
  refine s_ hf (r_fa fa82_0 hf rfl) fun a hf => ?_
  refine s_ hf (r_load_agg ty80 hf rfl (o2.cl.lens lProd_0) (cForm.len _)) fun a hf => ?_
  obtain ⟨x1, hx2, hF⟩ := of_bind hF
  refine st_fn 3 hw hf rfl rfl (by decide) (r_fn en176 hf rfl) (laws_eqForm_ok  hx2) fun a v w ρ hf hw hE hN hΦ => ?_
  obtain rfl := hΦ
  replace o1 := o1.ext hE
  replace o2 := o2.ext hE
  refine s_ hf (r_not hf rfl) fun a hf => ?_
  refine c_nt ?_
  rcases of_ite hF with ⟨hb3, hF⟩ | ⟨hb3, hF⟩
  · refine c_ift hf rfl hb3 <| c_seq <| c_region ?_
    refine s_ hf (r_assign hf rfl) fun a hf => ?_
    refine c_nt <| c_retc ?_
    obtain rfl := Option.some.inj hF
    refine r_then <| c_ret hf (res_tmp Try.results135 hf rfl) ?_
    exact ⟨_, rfl, hw.below, rfl⟩
  refine c_iff hf rfl hb3 <| c_skip <| n_then <| c_seq <| c_seq <| c_region ?_
  refine s_ hf (r_fa fa82_1 hf rfl) fun a hf => ?_
  refine s_ hf (r_load_agg ty80 hf rfl (o1.cl.lens lProd_1) (cForm.len _)) fun a hf => ?_
  refine s_ hf (r_fa fa82_1 hf rfl) fun a hf => ?_
  refine s_ hf (r_load_agg ty80 hf rfl (o2.cl.lens lProd_1) (cForm.len _)) fun a hf => ?_
  obtain ⟨x4, hx5, hF⟩ := of_bind hF
  refine st_fn 4 hw hf rfl rfl (by decide) (r_fn en176 hf rfl) (laws_eqForm_ok  hx5) fun a v w ρ hf hw hE hN hΦ => ?_
  obtain rfl := hΦ
  replace o1 := o1.ext hE
  replace o2 := o2.ext hE
  refine s_ hf (r_not hf rfl) fun a hf => ?_
  refine c_nt ?_
  rcases of_ite hF with ⟨hb6, hF⟩ | ⟨hb6, hF⟩
  · refine c_ift hf rfl hb6 <| c_seq <| c_region ?_
    refine s_ hf (r_assign hf rfl) fun a hf => ?_
    refine c_nt <| c_retc ?_
    obtain rfl := Option.some.inj hF
    refine r_then <| c_ret hf (res_tmp Try.results135 hf rfl) ?_
    exact ⟨_, rfl, hw.below, rfl⟩
  refine c_iff hf rfl hb6 <| c_skip <| n_then <| c_seq <| c_seq <| c_region ?_
  refine s_ hf (r_fa fa82_2 hf rfl) fun a hf => ?_
  refine s_ hf (r_load_agg ty80 hf rfl (o1.cl.lens lProd_2) (cForm.len _)) fun a hf => ?_
  refine s_ hf (r_fa fa82_2 hf rfl) fun a hf => ?_
  refine s_ hf (r_load_agg ty80 hf rfl (o2.cl.lens lProd_2) (cForm.len _)) fun a hf => ?_
  obtain ⟨x7, hx8, hF⟩ := of_bind hF
  refine st_fn 5 hw hf rfl rfl (by decide) (r_fn en176 hf rfl) (laws_eqForm_ok  hx8) fun a v w ρ hf hw hE hN hΦ => ?_
  obtain rfl := hΦ
  replace o1 := o1.ext hE
  replace o2 := o2.ext hE
  refine s_ hf (r_not hf rfl) fun a hf => ?_
  refine c_nt ?_
  rcases of_ite hF with ⟨hb9, hF⟩ | ⟨hb9, hF⟩
  · refine c_ift hf rfl hb9 <| c_seq <| c_region ?_
    refine s_ hf (r_assign hf rfl) fun a hf => ?_
    refine c_nt <| c_retc ?_
    obtain rfl := Option.some.inj hF
    refine r_then <| c_ret hf (res_tmp Try.results135 hf rfl) ?_
    exact ⟨_, rfl, hw.below, rfl⟩
  refine c_iff hf rfl hb9 <| c_skip <| n_then <| c_seq <| c_region ?_
  refine s_ hf (r_assign hf rfl) fun a hf => ?_
  refine c_nt <| c_retc ?_
  obtain rfl := Option.some.inj hF
  refine c_ret hf (res_tmp Try.results135 hf rfl) ?_
  exact ⟨_, rfl, hw.below, rfl⟩
/-! f89 -/
noncomputable def laws_eqProductS_l2 (a0 : List Prod) (a1 : List Prod) (s3 : Int) : Option (LR Int Bool) :=
  if (decide (s3 < (a0.length : Int))) = true then (if 0 ≤ s3 ∧ s3 < (a0.length : Int) then (if 0 ≤ s3 ∧ s3 < (a1.length : Int) then ((laws_eqProduct (gl zProd a0 s3) (gl zProd a1 s3)).bind fun x9 => if (!x9) = true then (some (.ret false)) else (some (.next (w64 (s3 + 1))))) else none) else none) else (some (.stop s3))
noncomputable def laws_eqProductS (a0 : List Prod) (a1 : List Prod) : Option Bool :=
  if (decide ((a0.length : Int) ≠ (a1.length : Int))) = true then (some (false)) else ((iter (fun s => laws_eqProductS_l2 a0 a1 s) 0).bind fun o => match o with | .stop s3 => (some (true)) | .ret r => some r | .next _ => none)
theorem laws_eqProductS_ok {w0 : World} {a0 : List Prod} {a1 : List Prod} {va0 : Value} {va1 : Value} (h0 : Ro (kf cProd) w0 va0 a0) (h1 : Ro (kf cProd) w0 va1 a1) {r : Bool} (hF : laws_eqProductS a0 a1 = some r) :
    Calls Try.prog 89 [va0, va1].toArray w0 fun e w => ∃ v, e = .returned v ∧ Below w0.heap.size w0 w ∧ .bool r = v := by
  refine calls_of (k := 27) Try.func89 rfl rfl (Nat.le_of_ble_eq_true rfl) fun a hf => ?_
  replace hf : Fr 27 a [(0, va0), (1, va1)] := hf
  refine c_start fun w ρ hw => ?_
  unfold laws_eqProductS at hF
  refine c_seq <| c_region ?_
  refine s_ hf (r_assign hf rfl) fun a hf => ?_
  refine c_nt <| c_seq <| c_seq <| c_region ?_
  refine s_ hf (r_move hf rfl) fun a hf => ?_
  refine s_ hf (r_len Try.underlying37 (h0.now hw) hf rfl) fun a hf => ?_
  refine s_ hf (r_move hf rfl) fun a hf => ?_
  refine s_ hf (r_len Try.underlying37 (h1.now hw) hf rfl) fun a hf => ?_
  refine s_ hf (r_neq hf rfl rfl) fun a hf => ?_
  refine c_nt ?_
  rcases of_ite hF with ⟨hb1, hF⟩ | ⟨hb1, hF⟩
  · refine c_ift hf rfl hb1 <| c_seq <| c_region ?_
    refine s_ hf (r_assign hf rfl) fun a hf => ?_
    refine c_nt <| c_retc ?_
    obtain rfl := Option.some.inj hF
    refine r_then <| c_ret hf (res_tmp Try.results89 hf rfl) ?_
    exact ⟨_, rfl, hw.below, rfl⟩
  refine c_iff hf rfl hb1 <| c_skip <| n_then <| c_seq <| c_seq <| c_region ?_
  refine s_ hf (r_assign hf rfl) fun a hf => ?_
  refine c_nt ?_
  obtain ⟨ol2, ho2, hG2⟩ := of_bind hF
  clear hF
  refine c_block (c_loop (id := 0) (fun s => laws_eqProductS_l2 a0 a1 s) (fun (s3 : Int) a w => ∃ ρ, Wd w0 ρ w ∧ Fr 27 a [(0, va0), (1, va1), (5, vI s3)]) (fun (s3 : Int) a w => ∃ ρ, Wd w0 ρ w ∧ Fr 27 a []) ho2 ⟨_, hw, hf.sub ⟨rfl, rfl, rfl, trivial⟩⟩ ?_ ?_)
  · rintro s3 lr a w ⟨ρ, hw, hf⟩ hF
    replace hF : laws_eqProductS_l2 a0 a1 s3 = some lr := hF
    unfold laws_eqProductS_l2 at hF
    refine c_seq <| c_seq <| c_region ?_
    refine s_ hf (r_move hf rfl) fun a hf => ?_
    refine s_ hf (r_move hf rfl) fun a hf => ?_
    refine s_ hf (r_len Try.underlying37 (h0.now hw) hf rfl) fun a hf => ?_
    refine s_ hf (r_lss hf rfl rfl) fun a hf => ?_
    refine c_nt ?_
    rcases of_ite hF with ⟨hb4, hF⟩ | ⟨hb4, hF⟩
    rotate_left
    · refine c_iff hf rfl hb4 <| c_exit <| x_then ?_
      obtain rfl := Option.some.inj hF
      exact Rnd.stops ⟨_, hw, hf.sub trivial⟩
    refine c_ift hf rfl hb4 <| c_skip <| n_then <| c_seq <| c_block <| c_seq ?_
    obtain ⟨hc5, hF⟩ := of_guard hF
    obtain ⟨ad6, c6, he6, hl6⟩ := Ro.el cProd h0 zProd hc5.1 hc5.2
    obtain ⟨hc7, hF⟩ := of_guard hF
    obtain ⟨ad8, c8, he8, hl8⟩ := Ro.el cProd h1 zProd hc7.1 hc7.2
    replace hf : Fr 27 a [(0, va0), (1, va1), (5, vI s3)] := hf.sub ⟨rfl, rfl, rfl, trivial⟩
    refine c_drawL (h := 8) mixed (by kernel_rfl) (by kernel_rfl) (fun ρ w => True) ?_ [fun ρ w v => va0 = v, fun ρ w v => vI s3 = v, fun ρ w v => .pointer (some (ad6.add (s3.toNat * 27))) = v, fun ρ w v => .agg (cProd.enc (gl zProd a0 s3)).toArray = v, fun ρ w v => va1 = v, fun ρ w v => vI s3 = v, fun ρ w v => .pointer (some (ad8.add (s3.toNat * 27))) = v, fun ρ w v => .agg (cProd.enc (gl zProd a1 s3)).toArray = v] ?_ hw trivial hf ?_ ?_
    · intro ρ w ρ' w' hE hG
      skip
      exact trivial
    · exact LastsL.cons (fun _ _ _ _ _ _ h => h) <| LastsL.cons (fun _ _ _ _ _ _ h => h) <| LastsL.cons (fun _ _ _ _ _ _ h => h) <| LastsL.cons (fun _ _ _ _ _ _ h => h) <| LastsL.cons (fun _ _ _ _ _ _ h => h) <| LastsL.cons (fun _ _ _ _ _ _ h => h) <| LastsL.cons (fun _ _ _ _ _ _ h => h) <| LastsL.cons (fun _ _ _ _ _ _ h => h) <| LastsL.nil
    · refine StepsB.cons ?_ <| StepsB.cons ?_ <| StepsB.cons ?_ <| StepsB.cons ?_ <| StepsB.cons ?_ <| StepsB.cons ?_ <| StepsB.cons ?_ <| StepsB.cons ?_ <| StepsB.nil
      · intro ρ w a hw hG hf hd K hK
        exact dv_ hK hw (wn rfl) (r_move hf rfl) rfl
      · intro ρ w a hw hG hf hd K hK
        exact dv_ hK hw (wn rfl) (r_move hf rfl) rfl
      · intro ρ w a hw hG hf hd K hK
        obtain ⟨_, hf, rfl⟩ := got (hd 0 (by kernel_rfl)) hf
        obtain ⟨_, hf, rfl⟩ := got (hd 1 (by kernel_rfl)) hf
        exact dv_ hK hw (wn rfl) (r_idx Try.underlying37 sz82 hf rfl ⟨_, he6⟩ rfl hc5.1 hc5.2) rfl
      · intro ρ w a hw hG hf hd K hK
        obtain ⟨_, hf, rfl⟩ := got (hd 2 (by kernel_rfl)) hf
        exact dv_ hK hw (wn rfl) (r_load_agg ty82 hf rfl (hl6.below hw.below) (cProd.len _)) rfl
      · intro ρ w a hw hG hf hd K hK
        exact dv_ hK hw (wn rfl) (r_move hf rfl) rfl
      · intro ρ w a hw hG hf hd K hK
        exact dv_ hK hw (wn rfl) (r_move hf rfl) rfl
      · intro ρ w a hw hG hf hd K hK
        obtain ⟨_, hf, rfl⟩ := got (hd 4 (by kernel_rfl)) hf
        obtain ⟨_, hf, rfl⟩ := got (hd 5 (by kernel_rfl)) hf
        exact dv_ hK hw (wn rfl) (r_idx Try.underlying37 sz82 hf rfl ⟨_, he8⟩ rfl hc7.1 hc7.2) rfl
      · intro ρ w a hw hG hf hd K hK
        obtain ⟨_, hf, rfl⟩ := got (hd 6 (by kernel_rfl)) hf
        exact dv_ hK hw (wn rfl) (r_load_agg ty82 hf rfl (hl8.below hw.below) (cProd.len _)) rfl
    intro ρ w a hw hG hf hd
    obtain ⟨_, hf, rfl⟩ := got (hd 3 (by decide)) hf
    obtain ⟨_, hf, rfl⟩ := got (hd 7 (by decide)) hf
    obtain ⟨x9, hx10, hF⟩ := of_bind hF
    refine st_fn 1 hw hf rfl rfl (by decide) (r_fn en135 hf rfl) (laws_eqProduct_ok  hx10) fun a v w ρ hf hw hE hN hΦ => ?_
    obtain rfl := hΦ
    refine s_ hf (r_not hf rfl) fun a hf => ?_
    refine c_nt ?_
    rcases of_ite hF with ⟨hb11, hF⟩ | ⟨hb11, hF⟩
    rotate_left
    · refine c_iff hf rfl hb11 <| c_skip <| n_block <| n_then <| c_region ?_
      refine s_ hf (r_move hf rfl) fun a hf => ?_
      refine s_ hf (r_add hf rfl rfl) fun a hf => ?_
      refine s_ hf (r_assign hf rfl) fun a hf => ?_
      refine c_nil ?_
      obtain rfl := Option.some.inj hF
      exact Rnd.goes ⟨_, hw, hf.sub ⟨rfl, rfl, rfl, trivial⟩⟩
    refine c_ift hf rfl hb11 <| c_seq <| c_region ?_
    refine s_ hf (r_assign hf rfl) fun a hf => ?_
    refine c_nt <| c_retc ?_
    obtain rfl := Option.some.inj hF
    refine r_block <| r_then ?_
    refine Rnd.rets fun ho => ?_
    subst ho
    have hF := hG2
    dsimp only at hF
    obtain rfl := Option.some.inj hF
    refine r_block <| r_then <| c_ret hf (res_tmp Try.results89 hf rfl) ?_
    exact ⟨_, rfl, hw.below, rfl⟩
  rintro s3 a w hs ⟨ρ, hw, hf⟩
  subst hs
  have hF := hG2
  dsimp only at hF
  refine x_block <| n_then <| c_seq <| c_region ?_
  refine s_ hf (r_assign hf rfl) fun a hf => ?_
  refine c_nt <| c_retc ?_
  obtain rfl := Option.some.inj hF
  refine c_ret hf (res_tmp Try.results89 hf rfl) ?_
  exact ⟨_, rfl, hw.below, rfl⟩
/-! f39 -/
noncomputable def laws_eqScheme (a0 : Sch) (a1 : Sch) : Option Bool :=
  if (decide (a0.p ≠ a1.p)) = true then (some (false)) else (if (decide (a0.n ≠ a1.n)) = true then (some (false)) else (if (decide (a0.m ≠ a1.m)) = true then (some (false)) else (if (decide (a0.k ≠ a1.k)) = true then (some (false)) else ((laws_eqProductS a0.ps a1.ps).bind fun x5 => if (!x5) = true then (some (false)) else (some (true))))))
theorem laws_eqScheme_ok {w0 : World} {a0 : Sch} {a1 : Sch} {va0 : Value} {va1 : Value} (h0 : Ro (kf cProd) w0 va0 a0.ps) (h1 : Ro (kf cProd) w0 va1 a1.ps) {r : Bool} (hF : laws_eqScheme a0 a1 = some r) :
    Calls Try.prog 39 [.agg ([vI a0.p, vI a0.n, vI a0.m, vI a0.k, va0]).toArray, .agg ([vI a1.p, vI a1.n, vI a1.m, vI a1.k, va1]).toArray].toArray w0 fun e w => ∃ v, e = .returned v ∧ Below w0.heap.size w0 w ∧ .bool r = v := by
  refine calls_of (k := 31) Try.func39 rfl rfl (Nat.le_of_ble_eq_true rfl) fun a hf => ?_
  replace hf : Fr 31 a [(0, .agg ([vI a0.p, vI a0.n, vI a0.m, vI a0.k, va0]).toArray), (1, .agg ([vI a1.p, vI a1.n, vI a1.m, vI a1.k, va1]).toArray)] := hf
  refine c_start fun w ρ hw => ?_
  unfold laws_eqScheme at hF
  refine c_seq <| c_region ?_
  refine sx_ hf (r_box (cs := [vI a0.p, vI a0.n, vI a0.m, vI a0.k, va0]) 1 hw hf rfl rfl) fun a v w hf hΦ => ?_
  obtain ⟨g1, ρ, rfl, hw, hE, o1⟩ := hΦ
  refine sx_ hf (r_box (cs := [vI a1.p, vI a1.n, vI a1.m, vI a1.k, va1]) 2 hw hf rfl rfl) fun a v w hf hΦ => ?_
  obtain ⟨g2, ρ, rfl, hw, hE, o2⟩ := hΦ
  replace o1 := o1.ext hE
  refine s_ hf (r_assign hf rfl) fun a hf => ?_
  refine c_nt <| c_seq <| c_seq <| c_region ?_
  refine s_ hf (r_fa fa39_0 hf rfl) fun a hf => ?_
  refine s_ hf (r_load_cell ty2 hf rfl (o1.cl.at_ 0 _ rfl)) fun a hf => ?_
  refine s_ hf (r_fa fa39_0 hf rfl) fun a hf => ?_
  refine s_ hf (r_load_cell ty2 hf rfl (o2.cl.at_ 0 _ rfl)) fun a hf => ?_
  refine s_ hf (r_neq hf rfl rfl) fun a hf => ?_
  refine c_nt ?_
  rcases of_ite hF with ⟨hb1, hF⟩ | ⟨hb1, hF⟩
  · refine c_ift hf rfl hb1 <| c_seq <| c_region ?_
    refine s_ hf (r_assign hf rfl) fun a hf => ?_
    refine c_nt <| c_retc ?_
    obtain rfl := Option.some.inj hF
    refine r_then <| c_ret hf (res_tmp Try.results39 hf rfl) ?_
    exact ⟨_, rfl, hw.below, rfl⟩
  refine c_iff hf rfl hb1 <| c_skip <| n_then <| c_seq <| c_seq <| c_region ?_
  refine s_ hf (r_fa fa39_1 hf rfl) fun a hf => ?_
  refine s_ hf (r_load_cell ty2 hf rfl (o1.cl.at_ 1 _ rfl)) fun a hf => ?_
  refine s_ hf (r_fa fa39_1 hf rfl) fun a hf => ?_
  refine s_ hf (r_load_cell ty2 hf rfl (o2.cl.at_ 1 _ rfl)) fun a hf => ?_
  refine s_ hf (r_neq hf rfl rfl) fun a hf => ?_
  refine c_nt ?_
  rcases of_ite hF with ⟨hb2, hF⟩ | ⟨hb2, hF⟩
  · refine c_ift hf rfl hb2 <| c_seq <| c_region ?_
    refine s_ hf (r_assign hf rfl) fun a hf => ?_
    refine c_nt <| c_retc ?_
    obtain rfl := Option.some.inj hF
    refine r_then <| c_ret hf (res_tmp Try.results39 hf rfl) ?_
    exact ⟨_, rfl, hw.below, rfl⟩
  refine c_iff hf rfl hb2 <| c_skip <| n_then <| c_seq <| c_seq <| c_region ?_
  refine s_ hf (r_fa fa39_2 hf rfl) fun a hf => ?_
  refine s_ hf (r_load_cell ty2 hf rfl (o1.cl.at_ 2 _ rfl)) fun a hf => ?_
  refine s_ hf (r_fa fa39_2 hf rfl) fun a hf => ?_
  refine s_ hf (r_load_cell ty2 hf rfl (o2.cl.at_ 2 _ rfl)) fun a hf => ?_
  refine s_ hf (r_neq hf rfl rfl) fun a hf => ?_
  refine c_nt ?_
  rcases of_ite hF with ⟨hb3, hF⟩ | ⟨hb3, hF⟩
  · refine c_ift hf rfl hb3 <| c_seq <| c_region ?_
    refine s_ hf (r_assign hf rfl) fun a hf => ?_
    refine c_nt <| c_retc ?_
    obtain rfl := Option.some.inj hF
    refine r_then <| c_ret hf (res_tmp Try.results39 hf rfl) ?_
    exact ⟨_, rfl, hw.below, rfl⟩
  refine c_iff hf rfl hb3 <| c_skip <| n_then <| c_seq <| c_seq <| c_region ?_
  refine s_ hf (r_fa fa39_3 hf rfl) fun a hf => ?_
  refine s_ hf (r_load_cell ty2 hf rfl (o1.cl.at_ 3 _ rfl)) fun a hf => ?_
  refine s_ hf (r_fa fa39_3 hf rfl) fun a hf => ?_
  refine s_ hf (r_load_cell ty2 hf rfl (o2.cl.at_ 3 _ rfl)) fun a hf => ?_
  refine s_ hf (r_neq hf rfl rfl) fun a hf => ?_
  refine c_nt ?_
  rcases of_ite hF with ⟨hb4, hF⟩ | ⟨hb4, hF⟩
  · refine c_ift hf rfl hb4 <| c_seq <| c_region ?_
    refine s_ hf (r_assign hf rfl) fun a hf => ?_
    refine c_nt <| c_retc ?_
    obtain rfl := Option.some.inj hF
    refine r_then <| c_ret hf (res_tmp Try.results39 hf rfl) ?_
    exact ⟨_, rfl, hw.below, rfl⟩
  refine c_iff hf rfl hb4 <| c_skip <| n_then <| c_seq <| c_seq <| c_region ?_
  refine s_ hf (r_fa fa39_4 hf rfl) fun a hf => ?_
  refine s_ hf (r_load_cell ty37 hf rfl (o1.cl.at_ 4 _ rfl)) fun a hf => ?_
  refine s_ hf (r_fa fa39_4 hf rfl) fun a hf => ?_
  refine s_ hf (r_load_cell ty37 hf rfl (o2.cl.at_ 4 _ rfl)) fun a hf => ?_
  obtain ⟨x5, hx6, hF⟩ := of_bind hF
  refine st_fn 3 hw hf rfl rfl (by decide) (r_fn en89 hf rfl) (laws_eqProductS_ok (h0.now hw) (h1.now hw) hx6) fun a v w ρ hf hw hE hN hΦ => ?_
  obtain rfl := hΦ
  replace o1 := o1.ext hE
  replace o2 := o2.ext hE
  refine s_ hf (r_not hf rfl) fun a hf => ?_
  refine c_nt ?_
  rcases of_ite hF with ⟨hb7, hF⟩ | ⟨hb7, hF⟩
  · refine c_ift hf rfl hb7 <| c_seq <| c_region ?_
    refine s_ hf (r_assign hf rfl) fun a hf => ?_
    refine c_nt <| c_retc ?_
    obtain rfl := Option.some.inj hF
    refine r_then <| c_ret hf (res_tmp Try.results39 hf rfl) ?_
    exact ⟨_, rfl, hw.below, rfl⟩
  refine c_iff hf rfl hb7 <| c_skip <| n_then <| c_seq <| c_region ?_
  refine s_ hf (r_assign hf rfl) fun a hf => ?_
  refine c_nt <| c_retc ?_
  obtain rfl := Option.some.inj hF
  refine c_ret hf (res_tmp Try.results39 hf rfl) ?_
  exact ⟨_, rfl, hw.below, rfl⟩
/-! f90 -/
noncomputable def laws_markProductS_l6 (s3 : Int) (s7 : Int) (s8 : Int) (s9 : List Prod) : Option (LR (Int × Int × (List Prod)) (Int × (List Prod))) :=
  if (decide (s8 < 9)) = true then (if 0 ≤ s3 ∧ s3 < (s9.length : Int) then (if 0 ≤ s8 ∧ s8 < 9 then (some (.next (w64 (s7 + 1), w64 (s8 + 1), (s9.set s3.toNat (vs ((gl zProd s9 s3).1) s8 (u8 s7), (gl zProd s9 s3).2.1, (gl zProd s9 s3).2.2))))) else none) else none) else (some (.stop (s7, s8, s9)))
noncomputable def laws_markProductS_l14 (s3 : Int) (s15 : Int) (s16 : Int) (s17 : List Prod) : Option (LR (Int × Int × (List Prod)) (Int × (List Prod))) :=
  if (decide (s16 < 9)) = true then (if 0 ≤ s3 ∧ s3 < (s17.length : Int) then (if 0 ≤ s16 ∧ s16 < 9 then (some (.next (w64 (s15 + 1), w64 (s16 + 1), (s17.set s3.toNat ((gl zProd s17 s3).1, vs ((gl zProd s17 s3).2.1) s16 (u8 s15), (gl zProd s17 s3).2.2))))) else none) else none) else (some (.stop (s15, s16, s17)))
noncomputable def laws_markProductS_l22 (s3 : Int) (s23 : Int) (s24 : Int) (s25 : List Prod) : Option (LR (Int × Int × (List Prod)) (Int × (List Prod))) :=
  if (decide (s24 < 9)) = true then (if 0 ≤ s3 ∧ s3 < (s25.length : Int) then (if 0 ≤ s24 ∧ s24 < 9 then (some (.next (w64 (s23 + 1), w64 (s24 + 1), (s25.set s3.toNat ((gl zProd s25 s3).1, (gl zProd s25 s3).2.1, vs ((gl zProd s25 s3).2.2) s24 (u8 s23)))))) else none) else none) else (some (.stop (s23, s24, s25)))
noncomputable def laws_markProductS_l1  (s2 : Int) (s3 : Int) (s4 : List Prod) : Option (LR (Int × Int × (List Prod)) (Int × (List Prod))) :=
  if (decide (s3 < (s4.length : Int))) = true then ((iter (fun s => laws_markProductS_l6 s3 s.1 s.2.1 s.2.2) (s2, 0, s4)).bind fun o => match o with | .stop (s7, s8, s9) => ((iter (fun s => laws_markProductS_l14 s3 s.1 s.2.1 s.2.2) (s7, 0, s9)).bind fun o => match o with | .stop (s15, s16, s17) => ((iter (fun s => laws_markProductS_l22 s3 s.1 s.2.1 s.2.2) (s15, 0, s17)).bind fun o => match o with | .stop (s23, s24, s25) => (some (.next (s23, w64 (s3 + 1), s25))) | .ret r => some (.ret r) | .next _ => none) | .ret r => some (.ret r) | .next _ => none) | .ret r => some (.ret r) | .next _ => none) else (some (.stop (s2, s3, s4)))
noncomputable def laws_markProductS (a0 : List Prod) (a1 : Int) : Option (Int × (List Prod)) :=
  (iter (fun s => laws_markProductS_l1  s.1 s.2.1 s.2.2) (a1, 0, a0)).bind fun o => match o with | .stop (s2, s3, s4) => (some ((s2, s4))) | .ret r => some r | .next _ => none
theorem laws_markProductS_ok {w0 ws : World} {ρ0 : Nat → Nat} {i : Nat} (hi : i ≠ 0) (hW : Wd w0 ρ0 ws) {a0 : List Prod} {a1 : Int} {va0 : Value} (h0 : Ow (kf cProd) 82 ρ0 ws w0.heap.size i va0 a0) {r : Int × (List Prod)} (hF : laws_markProductS a0 a1 = some r) :
    Calls Try.prog 90 [va0, vI a1].toArray ws fun e w => ∃ v, e = .returned v ∧ ∃ ρ', Wd w0 ρ' w ∧ Adv i ρ0 ws ρ' w ∧ .int .i64 r.1 = v ∧ Ow (kf cProd) 82 ρ' w w0.heap.size i va0 r.2 := by
  refine calls_of (k := 58) Try.func90 rfl rfl (Nat.le_of_ble_eq_true rfl) fun a hf => ?_
  replace hf : Fr 58 a [(0, va0), (1, vI a1)] := hf
  refine c_startm hi hW h0 fun w ρ hw oA o1 => ?_
  unfold laws_markProductS at hF
  refine c_seq <| c_region ?_
  refine s_ hf (r_assign hf rfl) fun a hf => ?_
  refine c_nt <| c_seq <| c_seq <| c_region ?_
  refine s_ hf (r_assign hf rfl) fun a hf => ?_
  refine c_nt ?_
  obtain ⟨ol1, ho1, hG1⟩ := of_bind hF
  clear hF
  refine c_block (c_loop (id := 0) (fun s => laws_markProductS_l1  s.1 s.2.1 s.2.2) (fun (s : Int × Int × (List Prod)) a w => match s with | (s2, s3, s4) => ∃ ρ, Wd w0 ρ w ∧ Fr 58 a [(0, va0), (1, vI s2), (5, vI s3)] ∧ Old (oneOf ρ0 i) ws ρ w ∧ O82 ρ w w0 1 va0 s4) (fun (s : Int × Int × (List Prod)) a w => match s with | (s2, s3, s4) => ∃ ρ, Wd w0 ρ w ∧ Fr 58 a [(1, vI s2)] ∧ Old (oneOf ρ0 i) ws ρ w ∧ O82 ρ w w0 1 va0 s4) ho1 ⟨_, hw, hf.sub ⟨rfl, rfl, rfl, trivial⟩, oA, o1⟩ ?_ ?_)
  · rintro ⟨s2, s3, s4⟩ lr a w ⟨ρ, hw, hf, oA, o1⟩ hF
    replace hF : laws_markProductS_l1  s2 s3 s4 = some lr := hF
    unfold laws_markProductS_l1 at hF
    refine c_seq <| c_seq <| c_region ?_
    refine s_ hf (r_move hf rfl) fun a hf => ?_
    refine s_ hf (r_move hf rfl) fun a hf => ?_
    refine s_ hf (r_len Try.underlying37 o1.ro hf rfl) fun a hf => ?_
    refine s_ hf (r_lss hf rfl rfl) fun a hf => ?_
    refine c_nt ?_
    rcases of_ite hF with ⟨hb5, hF⟩ | ⟨hb5, hF⟩
    rotate_left
    · refine c_iff hf rfl hb5 <| c_exit <| x_then ?_
      obtain rfl := Option.some.inj hF
      exact Rnd.stops ⟨_, hw, hf.sub ⟨rfl, trivial⟩, oA, o1⟩
    refine c_ift hf rfl hb5 <| c_skip <| n_then <| c_seq <| c_block <| c_seq <| c_seq <| c_region ?_
    refine s_ hf (r_assign hf rfl) fun a hf => ?_
    refine c_nt ?_
    obtain ⟨ol6, ho6, hG6⟩ := of_bind hF
    clear hF
    refine c_block (c_loop (id := 2) (fun s => laws_markProductS_l6 s3 s.1 s.2.1 s.2.2) (fun (s : Int × Int × (List Prod)) a w => match s with | (s7, s8, s9) => ∃ ρ, Wd w0 ρ w ∧ Fr 58 a [(0, va0), (1, vI s7), (5, vI s3), (6, vI s8)] ∧ Old (oneOf ρ0 i) ws ρ w ∧ O82 ρ w w0 1 va0 s9) (fun (s : Int × Int × (List Prod)) a w => match s with | (s7, s8, s9) => ∃ ρ, Wd w0 ρ w ∧ Fr 58 a [(0, va0), (1, vI s7), (5, vI s3)] ∧ Old (oneOf ρ0 i) ws ρ w ∧ O82 ρ w w0 1 va0 s9) ho6 ⟨_, hw, hf.sub ⟨rfl, rfl, rfl, rfl, trivial⟩, oA, o1⟩ ?_ ?_)
    · rintro ⟨s7, s8, s9⟩ lr a w ⟨ρ, hw, hf, oA, o1⟩ hF
      replace hF : laws_markProductS_l6 s3 s7 s8 s9 = some lr := hF
      unfold laws_markProductS_l6 at hF
      refine c_seq <| c_seq <| c_region ?_
      refine s_ hf (r_move hf rfl) fun a hf => ?_
      refine s_ hf (r_lss hf rfl rfl) fun a hf => ?_
      refine c_nt ?_
      rcases of_ite hF with ⟨hb10, hF⟩ | ⟨hb10, hF⟩
      rotate_left
      · refine c_iff hf rfl hb10 <| c_exit <| x_then ?_
        obtain rfl := Option.some.inj hF
        exact Rnd.stops ⟨_, hw, hf.sub ⟨rfl, rfl, rfl, trivial⟩, oA, o1⟩
      refine c_ift hf rfl hb10 <| c_skip <| n_then <| c_seq <| c_block <| c_seq <| c_region ?_
      refine s_ hf (r_move hf rfl) fun a hf => ?_
      refine s_ hf (r_move hf rfl) fun a hf => ?_
      refine s_ hf (r_move hf rfl) fun a hf => ?_
      refine s_ hf (r_move hf rfl) fun a hf => ?_
      refine s_ hf (r_conv_i64_u8 Try.underlying3 Try.underlying5 hf rfl) fun a hf => ?_
      obtain ⟨hc11, hF⟩ := of_guard hF
      obtain ⟨ad12, hl12⟩ := Ow.ce (d := cProd) o1 zProd hc11.1 hc11.2
      refine s_ hf (r_idx Try.underlying37 sz82 hf rfl hl12.at_ rfl hc11.1 hc11.2) fun a hf => ?_
      refine s_ hf (r_fa fa82_0 hf rfl) fun a hf => ?_
      obtain ⟨hc13, hF⟩ := of_guard hF
      refine s_ hf (r_indexAddr_arr Try.underlying80 sz5 hf rfl rfl hc13.1 hc13.2) fun a hf => ?_
      refine sk_ hf (r_store_ec (b := u8 s7) zProd hw (by decide) o1 hc11.1 hc11.2 (Lens.comp lProd_0 (Lens.vec 0 fU8 s8 hc13.1 hc13.2)) hl12.at_ ty5 (by first | rfl | exact Nat.add_assoc _ _ _ | (simp only [Nat.add_assoc]; rfl)) hf rfl rfl rfl) fun a w hf hΦ => ?_
      obtain ⟨hw, hA, o1⟩ := hΦ
      replace oA := oA.adv hA (by decide)
      refine c_nt <| c_region ?_
      refine s_ hf (r_move hf rfl) fun a hf => ?_
      refine s_ hf (r_add hf rfl rfl) fun a hf => ?_
      refine s_ hf (r_assign hf rfl) fun a hf => ?_
      refine c_nil <| n_block <| n_then <| c_region ?_
      refine s_ hf (r_move hf rfl) fun a hf => ?_
      refine s_ hf (r_add hf rfl rfl) fun a hf => ?_
      refine s_ hf (r_assign hf rfl) fun a hf => ?_
      refine c_nil ?_
      obtain rfl := Option.some.inj hF
      exact Rnd.goes ⟨_, hw, hf.sub ⟨rfl, rfl, rfl, rfl, trivial⟩, oA, o1⟩
    rintro ⟨s7, s8, s9⟩ a w hs ⟨ρ, hw, hf, oA, o1⟩
    subst hs
    have hF := hG6
    dsimp only at hF
    refine x_block <| n_then <| c_seq <| c_seq <| c_region ?_
    refine s_ hf (r_assign hf rfl) fun a hf => ?_
    refine c_nt ?_
    obtain ⟨ol14, ho14, hG14⟩ := of_bind hF
    clear hF
    refine c_block (c_loop (id := 4) (fun s => laws_markProductS_l14 s3 s.1 s.2.1 s.2.2) (fun (s : Int × Int × (List Prod)) a w => match s with | (s15, s16, s17) => ∃ ρ, Wd w0 ρ w ∧ Fr 58 a [(0, va0), (1, vI s15), (5, vI s3), (7, vI s16)] ∧ Old (oneOf ρ0 i) ws ρ w ∧ O82 ρ w w0 1 va0 s17) (fun (s : Int × Int × (List Prod)) a w => match s with | (s15, s16, s17) => ∃ ρ, Wd w0 ρ w ∧ Fr 58 a [(0, va0), (1, vI s15), (5, vI s3)] ∧ Old (oneOf ρ0 i) ws ρ w ∧ O82 ρ w w0 1 va0 s17) ho14 ⟨_, hw, hf.sub ⟨rfl, rfl, rfl, rfl, trivial⟩, oA, o1⟩ ?_ ?_)
    · rintro ⟨s15, s16, s17⟩ lr a w ⟨ρ, hw, hf, oA, o1⟩ hF
      replace hF : laws_markProductS_l14 s3 s15 s16 s17 = some lr := hF
      unfold laws_markProductS_l14 at hF
      refine c_seq <| c_seq <| c_region ?_
      refine s_ hf (r_move hf rfl) fun a hf => ?_
      refine s_ hf (r_lss hf rfl rfl) fun a hf => ?_
      refine c_nt ?_
      rcases of_ite hF with ⟨hb18, hF⟩ | ⟨hb18, hF⟩
      rotate_left
      · refine c_iff hf rfl hb18 <| c_exit <| x_then ?_
        obtain rfl := Option.some.inj hF
        exact Rnd.stops ⟨_, hw, hf.sub ⟨rfl, rfl, rfl, trivial⟩, oA, o1⟩
      refine c_ift hf rfl hb18 <| c_skip <| n_then <| c_seq <| c_block <| c_seq <| c_region ?_
      refine s_ hf (r_move hf rfl) fun a hf => ?_
      refine s_ hf (r_move hf rfl) fun a hf => ?_
      refine s_ hf (r_move hf rfl) fun a hf => ?_
      refine s_ hf (r_move hf rfl) fun a hf => ?_
      refine s_ hf (r_conv_i64_u8 Try.underlying3 Try.underlying5 hf rfl) fun a hf => ?_
      obtain ⟨hc19, hF⟩ := of_guard hF
      obtain ⟨ad20, hl20⟩ := Ow.ce (d := cProd) o1 zProd hc19.1 hc19.2
      refine s_ hf (r_idx Try.underlying37 sz82 hf rfl hl20.at_ rfl hc19.1 hc19.2) fun a hf => ?_
      refine s_ hf (r_fa fa82_1 hf rfl) fun a hf => ?_
      obtain ⟨hc21, hF⟩ := of_guard hF
      refine s_ hf (r_indexAddr_arr Try.underlying80 sz5 hf rfl rfl hc21.1 hc21.2) fun a hf => ?_
      refine sk_ hf (r_store_ec (b := u8 s15) zProd hw (by decide) o1 hc19.1 hc19.2 (Lens.comp lProd_1 (Lens.vec 0 fU8 s16 hc21.1 hc21.2)) hl20.at_ ty5 (by first | rfl | exact Nat.add_assoc _ _ _ | (simp only [Nat.add_assoc]; rfl)) hf rfl rfl rfl) fun a w hf hΦ => ?_
      obtain ⟨hw, hA, o1⟩ := hΦ
      replace oA := oA.adv hA (by decide)
      refine c_nt <| c_region ?_
      refine s_ hf (r_move hf rfl) fun a hf => ?_
      refine s_ hf (r_add hf rfl rfl) fun a hf => ?_
      refine s_ hf (r_assign hf rfl) fun a hf => ?_
      refine c_nil <| n_block <| n_then <| c_region ?_
      refine s_ hf (r_move hf rfl) fun a hf => ?_
      refine s_ hf (r_add hf rfl rfl) fun a hf => ?_
      refine s_ hf (r_assign hf rfl) fun a hf => ?_
      refine c_nil ?_
      obtain rfl := Option.some.inj hF
      exact Rnd.goes ⟨_, hw, hf.sub ⟨rfl, rfl, rfl, rfl, trivial⟩, oA, o1⟩
    rintro ⟨s15, s16, s17⟩ a w hs ⟨ρ, hw, hf, oA, o1⟩
    subst hs
    have hF := hG14
    dsimp only at hF
    refine x_block <| n_then <| c_seq <| c_region ?_
    refine s_ hf (r_assign hf rfl) fun a hf => ?_
    refine c_nt ?_
    obtain ⟨ol22, ho22, hG22⟩ := of_bind hF
    clear hF
    refine c_block (c_loop (id := 6) (fun s => laws_markProductS_l22 s3 s.1 s.2.1 s.2.2) (fun (s : Int × Int × (List Prod)) a w => match s with | (s23, s24, s25) => ∃ ρ, Wd w0 ρ w ∧ Fr 58 a [(0, va0), (1, vI s23), (5, vI s3), (8, vI s24)] ∧ Old (oneOf ρ0 i) ws ρ w ∧ O82 ρ w w0 1 va0 s25) (fun (s : Int × Int × (List Prod)) a w => match s with | (s23, s24, s25) => ∃ ρ, Wd w0 ρ w ∧ Fr 58 a [(0, va0), (1, vI s23), (5, vI s3)] ∧ Old (oneOf ρ0 i) ws ρ w ∧ O82 ρ w w0 1 va0 s25) ho22 ⟨_, hw, hf.sub ⟨rfl, rfl, rfl, rfl, trivial⟩, oA, o1⟩ ?_ ?_)
    · rintro ⟨s23, s24, s25⟩ lr a w ⟨ρ, hw, hf, oA, o1⟩ hF
      replace hF : laws_markProductS_l22 s3 s23 s24 s25 = some lr := hF
      unfold laws_markProductS_l22 at hF
      refine c_seq <| c_seq <| c_region ?_
      refine s_ hf (r_move hf rfl) fun a hf => ?_
      refine s_ hf (r_lss hf rfl rfl) fun a hf => ?_
      refine c_nt ?_
      rcases of_ite hF with ⟨hb26, hF⟩ | ⟨hb26, hF⟩
      rotate_left
      · refine c_iff hf rfl hb26 <| c_exit <| x_then ?_
        obtain rfl := Option.some.inj hF
        exact Rnd.stops ⟨_, hw, hf.sub ⟨rfl, rfl, rfl, trivial⟩, oA, o1⟩
      refine c_ift hf rfl hb26 <| c_skip <| n_then <| c_seq <| c_block <| c_seq <| c_region ?_
      refine s_ hf (r_move hf rfl) fun a hf => ?_
      refine s_ hf (r_move hf rfl) fun a hf => ?_
      refine s_ hf (r_move hf rfl) fun a hf => ?_
      refine s_ hf (r_move hf rfl) fun a hf => ?_
      refine s_ hf (r_conv_i64_u8 Try.underlying3 Try.underlying5 hf rfl) fun a hf => ?_
      obtain ⟨hc27, hF⟩ := of_guard hF
      obtain ⟨ad28, hl28⟩ := Ow.ce (d := cProd) o1 zProd hc27.1 hc27.2
      refine s_ hf (r_idx Try.underlying37 sz82 hf rfl hl28.at_ rfl hc27.1 hc27.2) fun a hf => ?_
      refine s_ hf (r_fa fa82_2 hf rfl) fun a hf => ?_
      obtain ⟨hc29, hF⟩ := of_guard hF
      refine s_ hf (r_indexAddr_arr Try.underlying80 sz5 hf rfl rfl hc29.1 hc29.2) fun a hf => ?_
      refine sk_ hf (r_store_ec (b := u8 s23) zProd hw (by decide) o1 hc27.1 hc27.2 (Lens.comp lProd_2 (Lens.vec 0 fU8 s24 hc29.1 hc29.2)) hl28.at_ ty5 (by first | rfl | exact Nat.add_assoc _ _ _ | (simp only [Nat.add_assoc]; rfl)) hf rfl rfl rfl) fun a w hf hΦ => ?_
      obtain ⟨hw, hA, o1⟩ := hΦ
      replace oA := oA.adv hA (by decide)
      refine c_nt <| c_region ?_
      refine s_ hf (r_move hf rfl) fun a hf => ?_
      refine s_ hf (r_add hf rfl rfl) fun a hf => ?_
      refine s_ hf (r_assign hf rfl) fun a hf => ?_
      refine c_nil <| n_block <| n_then <| c_region ?_
      refine s_ hf (r_move hf rfl) fun a hf => ?_
      refine s_ hf (r_add hf rfl rfl) fun a hf => ?_
      refine s_ hf (r_assign hf rfl) fun a hf => ?_
      refine c_nil ?_
      obtain rfl := Option.some.inj hF
      exact Rnd.goes ⟨_, hw, hf.sub ⟨rfl, rfl, rfl, rfl, trivial⟩, oA, o1⟩
    rintro ⟨s23, s24, s25⟩ a w hs ⟨ρ, hw, hf, oA, o1⟩
    subst hs
    have hF := hG22
    dsimp only at hF
    refine x_block <| n_block <| n_then <| c_region ?_
    refine s_ hf (r_move hf rfl) fun a hf => ?_
    refine s_ hf (r_add hf rfl rfl) fun a hf => ?_
    refine s_ hf (r_assign hf rfl) fun a hf => ?_
    refine c_nil ?_
    obtain rfl := Option.some.inj hF
    exact Rnd.goes ⟨_, hw, hf.sub ⟨rfl, rfl, rfl, trivial⟩, oA, o1⟩
  rintro ⟨s2, s3, s4⟩ a w hs ⟨ρ, hw, hf, oA, o1⟩
  subst hs
  have hF := hG1
  dsimp only at hF
  refine x_block <| n_then <| c_seq <| c_region ?_
  refine s_ hf (r_move hf rfl) fun a hf => ?_
  refine s_ hf (r_assign hf rfl) fun a hf => ?_
  refine c_nt <| c_retc ?_
  obtain rfl := Option.some.inj hF
  refine c_ret hf (res_tmp Try.results90 hf rfl) ?_
  exact ⟨_, rfl, _, m_wd hW hw oA, m_adv oA, rfl, m_ow oA o1⟩
/-! f40 -/
noncomputable def laws_markScheme (a0 : Sch) (a1 : Int) : Option (Int × (List Prod)) :=
  (laws_markProductS a0.ps a1).bind fun x1 => some ((x1.1, x1.2))
theorem laws_markScheme_ok {w0 ws : World} {ρ0 : Nat → Nat} {i : Nat} (hi : i ≠ 0) (hW : Wd w0 ρ0 ws) {a0 : Sch} {a1 : Int} {va0 : Value} (h0 : Ow (kf cProd) 82 ρ0 ws w0.heap.size i va0 a0.ps) {r : Int × (List Prod)} (hF : laws_markScheme a0 a1 = some r) :
    Calls Try.prog 40 [.agg ([vI a0.p, vI a0.n, vI a0.m, vI a0.k, va0]).toArray, vI a1].toArray ws fun e w => ∃ v, e = .returned v ∧ ∃ ρ', Wd w0 ρ' w ∧ Adv i ρ0 ws ρ' w ∧ .int .i64 r.1 = v ∧ Ow (kf cProd) 82 ρ' w w0.heap.size i va0 r.2 := by
  refine calls_of (k := 10) Try.func40 rfl rfl (Nat.le_of_ble_eq_true rfl) fun a hf => ?_
  replace hf : Fr 10 a [(0, .agg ([vI a0.p, vI a0.n, vI a0.m, vI a0.k, va0]).toArray), (1, vI a1)] := hf
  refine c_startm hi hW h0 fun w ρ hw oA o1 => ?_
  unfold laws_markScheme at hF
  refine c_seq <| c_region ?_
  refine sx_ hf (r_box (cs := [vI a0.p, vI a0.n, vI a0.m, vI a0.k, va0]) 2 hw hf rfl rfl) fun a v w hf hΦ => ?_
  obtain ⟨g2, ρ, rfl, hw, hE, o2⟩ := hΦ
  replace oA := oA.ext hE
  replace o1 := o1.ext hE
  refine s_ hf (r_assign hf rfl) fun a hf => ?_
  refine c_nt <| c_seq <| c_region ?_
  refine s_ hf (r_fa fa39_4 hf rfl) fun a hf => ?_
  refine s_ hf (r_load_cell ty37 hf rfl (o2.cl.at_ 4 _ rfl)) fun a hf => ?_
  refine s_ hf (r_move hf rfl) fun a hf => ?_
  obtain ⟨x1, hx2, hF⟩ := of_bind hF
  refine st_mfn hf rfl rfl (by decide) (r_fn en90 hf rfl) (laws_markProductS_ok (by decide) hw o1 hx2) fun a v w ρ hf hw hA hΦ => ?_
  obtain ⟨rfl, o1⟩ := hΦ
  replace oA := oA.adv hA (by decide)
  replace o2 := o2.adv hA (by decide)
  refine s_ hf (r_assign hf rfl) fun a hf => ?_
  refine c_nt <| c_seq <| c_region ?_
  refine s_ hf (r_move hf rfl) fun a hf => ?_
  refine s_ hf (r_assign hf rfl) fun a hf => ?_
  refine c_nt <| c_retc ?_
  obtain rfl := Option.some.inj hF
  refine c_ret hf (res_tmp Try.results40 hf rfl) ?_
  exact ⟨_, rfl, _, m_wd hW hw oA, m_adv oA, rfl, m_ow oA o1⟩
/-! f97 -/
noncomputable def laws_heldProductS_l5 (a0 : List Prod) (s3 : Int) (s6 : Int) (s7 : Int) : Option (LR (Int × Int) Int) :=
  if (decide (s7 < 9)) = true then (if 0 ≤ s3 ∧ s3 < (a0.length : Int) then (if 0 ≤ s7 ∧ s7 < 9 then (if (decide (((vg 0 ((gl zProd a0 s3).1) s7).toNat : Int) ≠ ((u8 s6).toNat : Int))) = true then (some (.ret (-1))) else (some (.next (w64 (s6 + 1), w64 (s7 + 1))))) else none) else none) else (some (.stop (s6, s7)))
noncomputable def laws_heldProductS_l13 (a0 : List Prod) (s3 : Int) (s14 : Int) (s15 : Int) : Option (LR (Int × Int) Int) :=
  if (decide (s15 < 9)) = true then (if 0 ≤ s3 ∧ s3 < (a0.length : Int) then (if 0 ≤ s15 ∧ s15 < 9 then (if (decide (((vg 0 ((gl zProd a0 s3).2.1) s15).toNat : Int) ≠ ((u8 s14).toNat : Int))) = true then (some (.ret (-1))) else (some (.next (w64 (s14 + 1), w64 (s15 + 1))))) else none) else none) else (some (.stop (s14, s15)))
noncomputable def laws_heldProductS_l21 (a0 : List Prod) (s3 : Int) (s22 : Int) (s23 : Int) : Option (LR (Int × Int) Int) :=
  if (decide (s23 < 9)) = true then (if 0 ≤ s3 ∧ s3 < (a0.length : Int) then (if 0 ≤ s23 ∧ s23 < 9 then (if (decide (((vg 0 ((gl zProd a0 s3).2.2) s23).toNat : Int) ≠ ((u8 s22).toNat : Int))) = true then (some (.ret (-1))) else (some (.next (w64 (s22 + 1), w64 (s23 + 1))))) else none) else none) else (some (.stop (s22, s23)))
noncomputable def laws_heldProductS_l1 (a0 : List Prod) (s2 : Int) (s3 : Int) : Option (LR (Int × Int) Int) :=
  if (decide (s3 < (a0.length : Int))) = true then ((iter (fun s => laws_heldProductS_l5 a0 s3 s.1 s.2) (s2, 0)).bind fun o => match o with | .stop (s6, s7) => ((iter (fun s => laws_heldProductS_l13 a0 s3 s.1 s.2) (s6, 0)).bind fun o => match o with | .stop (s14, s15) => ((iter (fun s => laws_heldProductS_l21 a0 s3 s.1 s.2) (s14, 0)).bind fun o => match o with | .stop (s22, s23) => (some (.next (s22, w64 (s3 + 1)))) | .ret r => some (.ret r) | .next _ => none) | .ret r => some (.ret r) | .next _ => none) | .ret r => some (.ret r) | .next _ => none) else (some (.stop (s2, s3)))
noncomputable def laws_heldProductS (a0 : List Prod) (a1 : Int) : Option Int :=
  (iter (fun s => laws_heldProductS_l1 a0 s.1 s.2) (a1, 0)).bind fun o => match o with | .stop (s2, s3) => (some (s2)) | .ret r => some r | .next _ => none
theorem laws_heldProductS_ok {w0 : World} {a0 : List Prod} {a1 : Int} {va0 : Value} (h0 : Ro (kf cProd) w0 va0 a0) {r : Int} (hF : laws_heldProductS a0 a1 = some r) :
    Calls Try.prog 97 [va0, vI a1].toArray w0 fun e w => ∃ v, e = .returned v ∧ Below w0.heap.size w0 w ∧ .int .i64 r = v := by
  refine calls_of (k := 64) Try.func97 rfl rfl (Nat.le_of_ble_eq_true rfl) fun a hf => ?_
  replace hf : Fr 64 a [(0, va0), (1, vI a1)] := hf
  refine c_start fun w ρ hw => ?_
  unfold laws_heldProductS at hF
  refine c_seq <| c_region ?_
  refine s_ hf (r_assign hf rfl) fun a hf => ?_
  refine c_nt <| c_seq <| c_seq <| c_region ?_
  refine s_ hf (r_assign hf rfl) fun a hf => ?_
  refine c_nt ?_
  obtain ⟨ol1, ho1, hG1⟩ := of_bind hF
  clear hF
  refine c_block (c_loop (id := 0) (fun s => laws_heldProductS_l1 a0 s.1 s.2) (fun (s : Int × Int) a w => match s with | (s2, s3) => ∃ ρ, Wd w0 ρ w ∧ Fr 64 a [(0, va0), (1, vI s2), (5, vI s3)]) (fun (s : Int × Int) a w => match s with | (s2, s3) => ∃ ρ, Wd w0 ρ w ∧ Fr 64 a [(1, vI s2)]) ho1 ⟨_, hw, hf.sub ⟨rfl, rfl, rfl, trivial⟩⟩ ?_ ?_)
  · rintro ⟨s2, s3⟩ lr a w ⟨ρ, hw, hf⟩ hF
    replace hF : laws_heldProductS_l1 a0 s2 s3 = some lr := hF
    unfold laws_heldProductS_l1 at hF
    refine c_seq <| c_seq <| c_region ?_
    refine s_ hf (r_move hf rfl) fun a hf => ?_
    refine s_ hf (r_move hf rfl) fun a hf => ?_
    refine s_ hf (r_len Try.underlying37 (h0.now hw) hf rfl) fun a hf => ?_
    refine s_ hf (r_lss hf rfl rfl) fun a hf => ?_
    refine c_nt ?_
    rcases of_ite hF with ⟨hb4, hF⟩ | ⟨hb4, hF⟩
    rotate_left
    · refine c_iff hf rfl hb4 <| c_exit <| x_then ?_
      obtain rfl := Option.some.inj hF
      exact Rnd.stops ⟨_, hw, hf.sub ⟨rfl, trivial⟩⟩
    refine c_ift hf rfl hb4 <| c_skip <| n_then <| c_seq <| c_block <| c_seq <| c_seq <| c_region ?_
    refine s_ hf (r_assign hf rfl) fun a hf => ?_
    refine c_nt ?_
    obtain ⟨ol5, ho5, hG5⟩ := of_bind hF
    clear hF
    refine c_block (c_loop (id := 2) (fun s => laws_heldProductS_l5 a0 s3 s.1 s.2) (fun (s : Int × Int) a w => match s with | (s6, s7) => ∃ ρ, Wd w0 ρ w ∧ Fr 64 a [(0, va0), (1, vI s6), (5, vI s3), (6, vI s7)]) (fun (s : Int × Int) a w => match s with | (s6, s7) => ∃ ρ, Wd w0 ρ w ∧ Fr 64 a [(0, va0), (1, vI s6), (5, vI s3)]) ho5 ⟨_, hw, hf.sub ⟨rfl, rfl, rfl, rfl, trivial⟩⟩ ?_ ?_)
    · rintro ⟨s6, s7⟩ lr a w ⟨ρ, hw, hf⟩ hF
      replace hF : laws_heldProductS_l5 a0 s3 s6 s7 = some lr := hF
      unfold laws_heldProductS_l5 at hF
      refine c_seq <| c_seq <| c_region ?_
      refine s_ hf (r_move hf rfl) fun a hf => ?_
      refine s_ hf (r_lss hf rfl rfl) fun a hf => ?_
      refine c_nt ?_
      rcases of_ite hF with ⟨hb8, hF⟩ | ⟨hb8, hF⟩
      rotate_left
      · refine c_iff hf rfl hb8 <| c_exit <| x_then ?_
        obtain rfl := Option.some.inj hF
        exact Rnd.stops ⟨_, hw, hf.sub ⟨rfl, rfl, rfl, trivial⟩⟩
      refine c_ift hf rfl hb8 <| c_skip <| n_then <| c_seq <| c_block <| c_seq <| c_seq <| c_region ?_
      refine s_ hf (r_move hf rfl) fun a hf => ?_
      refine s_ hf (r_move hf rfl) fun a hf => ?_
      refine s_ hf (r_move hf rfl) fun a hf => ?_
      obtain ⟨hc9, hF⟩ := of_guard hF
      obtain ⟨ad10, c10, he10, hl10⟩ := Ro.el cProd h0 zProd hc9.1 hc9.2
      refine s_ hf (r_idx Try.underlying37 sz82 hf rfl ⟨_, he10⟩ rfl hc9.1 hc9.2) fun a hf => ?_
      refine s_ hf (r_fa fa82_0 hf rfl) fun a hf => ?_
      obtain ⟨hc11, hF⟩ := of_guard hF
      refine s_ hf (r_indexAddr_arr Try.underlying80 sz5 hf rfl rfl hc11.1 hc11.2) fun a hf => ?_
      refine s_ hf (r_load_cell ty5 hf rfl (((hl10.below hw.below).lens lProd_0).lens (Lens.vec 0 fU8 s7 hc11.1 hc11.2))) fun a hf => ?_
      refine s_ hf (r_move hf rfl) fun a hf => ?_
      refine s_ hf (r_conv_i64_u8 Try.underlying3 Try.underlying5 hf rfl) fun a hf => ?_
      refine s_ hf (r_neq hf rfl rfl) fun a hf => ?_
      refine c_nt ?_
      rcases of_ite hF with ⟨hb12, hF⟩ | ⟨hb12, hF⟩
      rotate_left
      · refine c_iff hf rfl hb12 <| c_skip <| n_then <| c_region ?_
        refine s_ hf (r_move hf rfl) fun a hf => ?_
        refine s_ hf (r_add hf rfl rfl) fun a hf => ?_
        refine s_ hf (r_assign hf rfl) fun a hf => ?_
        refine c_nil <| n_block <| n_then <| c_region ?_
        refine s_ hf (r_move hf rfl) fun a hf => ?_
        refine s_ hf (r_add hf rfl rfl) fun a hf => ?_
        refine s_ hf (r_assign hf rfl) fun a hf => ?_
        refine c_nil ?_
        obtain rfl := Option.some.inj hF
        exact Rnd.goes ⟨_, hw, hf.sub ⟨rfl, rfl, rfl, rfl, trivial⟩⟩
      refine c_ift hf rfl hb12 <| c_seq <| c_region ?_
      refine s_ hf (r_assign hf rfl) fun a hf => ?_
      refine c_nt <| c_retc ?_
      obtain rfl := Option.some.inj hF
      refine r_then <| r_block <| r_then ?_
      refine Rnd.rets fun ho => ?_
      subst ho
      have hF := hG5
      dsimp only at hF
      obtain rfl := Option.some.inj hF
      refine r_block <| r_then <| r_block <| r_then ?_
      refine Rnd.rets fun ho => ?_
      subst ho
      have hF := hG1
      dsimp only at hF
      obtain rfl := Option.some.inj hF
      refine r_block <| r_then <| c_ret hf (res_tmp Try.results97 hf rfl) ?_
      exact ⟨_, rfl, hw.below, rfl⟩
    rintro ⟨s6, s7⟩ a w hs ⟨ρ, hw, hf⟩
    subst hs
    have hF := hG5
    dsimp only at hF
    refine x_block <| n_then <| c_seq <| c_seq <| c_region ?_
    refine s_ hf (r_assign hf rfl) fun a hf => ?_
    refine c_nt ?_
    obtain ⟨ol13, ho13, hG13⟩ := of_bind hF
    clear hF
    refine c_block (c_loop (id := 4) (fun s => laws_heldProductS_l13 a0 s3 s.1 s.2) (fun (s : Int × Int) a w => match s with | (s14, s15) => ∃ ρ, Wd w0 ρ w ∧ Fr 64 a [(0, va0), (1, vI s14), (5, vI s3), (7, vI s15)]) (fun (s : Int × Int) a w => match s with | (s14, s15) => ∃ ρ, Wd w0 ρ w ∧ Fr 64 a [(0, va0), (1, vI s14), (5, vI s3)]) ho13 ⟨_, hw, hf.sub ⟨rfl, rfl, rfl, rfl, trivial⟩⟩ ?_ ?_)
    · rintro ⟨s14, s15⟩ lr a w ⟨ρ, hw, hf⟩ hF
      replace hF : laws_heldProductS_l13 a0 s3 s14 s15 = some lr := hF
      unfold laws_heldProductS_l13 at hF
      refine c_seq <| c_seq <| c_region ?_
      refine s_ hf (r_move hf rfl) fun a hf => ?_
      refine s_ hf (r_lss hf rfl rfl) fun a hf => ?_
      refine c_nt ?_
      rcases of_ite hF with ⟨hb16, hF⟩ | ⟨hb16, hF⟩
      rotate_left
      · refine c_iff hf rfl hb16 <| c_exit <| x_then ?_
        obtain rfl := Option.some.inj hF
        exact Rnd.stops ⟨_, hw, hf.sub ⟨rfl, rfl, rfl, trivial⟩⟩
      refine c_ift hf rfl hb16 <| c_skip <| n_then <| c_seq <| c_block <| c_seq <| c_seq <| c_region ?_
      refine s_ hf (r_move hf rfl) fun a hf => ?_
      refine s_ hf (r_move hf rfl) fun a hf => ?_
      refine s_ hf (r_move hf rfl) fun a hf => ?_
      obtain ⟨hc17, hF⟩ := of_guard hF
      obtain ⟨ad18, c18, he18, hl18⟩ := Ro.el cProd h0 zProd hc17.1 hc17.2
      refine s_ hf (r_idx Try.underlying37 sz82 hf rfl ⟨_, he18⟩ rfl hc17.1 hc17.2) fun a hf => ?_
      refine s_ hf (r_fa fa82_1 hf rfl) fun a hf => ?_
      obtain ⟨hc19, hF⟩ := of_guard hF
      refine s_ hf (r_indexAddr_arr Try.underlying80 sz5 hf rfl rfl hc19.1 hc19.2) fun a hf => ?_
      refine s_ hf (r_load_cell ty5 hf rfl (((hl18.below hw.below).lens lProd_1).lens (Lens.vec 0 fU8 s15 hc19.1 hc19.2))) fun a hf => ?_
      refine s_ hf (r_move hf rfl) fun a hf => ?_
      refine s_ hf (r_conv_i64_u8 Try.underlying3 Try.underlying5 hf rfl) fun a hf => ?_
      refine s_ hf (r_neq hf rfl rfl) fun a hf => ?_
      refine c_nt ?_
      rcases of_ite hF with ⟨hb20, hF⟩ | ⟨hb20, hF⟩
      rotate_left
      · refine c_iff hf rfl hb20 <| c_skip <| n_then <| c_region ?_
        refine s_ hf (r_move hf rfl) fun a hf => ?_
        refine s_ hf (r_add hf rfl rfl) fun a hf => ?_
        refine s_ hf (r_assign hf rfl) fun a hf => ?_
        refine c_nil <| n_block <| n_then <| c_region ?_
        refine s_ hf (r_move hf rfl) fun a hf => ?_
        refine s_ hf (r_add hf rfl rfl) fun a hf => ?_
        refine s_ hf (r_assign hf rfl) fun a hf => ?_
        refine c_nil ?_
        obtain rfl := Option.some.inj hF
        exact Rnd.goes ⟨_, hw, hf.sub ⟨rfl, rfl, rfl, rfl, trivial⟩⟩
      refine c_ift hf rfl hb20 <| c_seq <| c_region ?_
      refine s_ hf (r_assign hf rfl) fun a hf => ?_
      refine c_nt <| c_retc ?_
      obtain rfl := Option.some.inj hF
      refine r_then <| r_block <| r_then ?_
      refine Rnd.rets fun ho => ?_
      subst ho
      have hF := hG13
      dsimp only at hF
      obtain rfl := Option.some.inj hF
      refine r_block <| r_then <| r_block <| r_then ?_
      refine Rnd.rets fun ho => ?_
      subst ho
      have hF := hG1
      dsimp only at hF
      obtain rfl := Option.some.inj hF
      refine r_block <| r_then <| c_ret hf (res_tmp Try.results97 hf rfl) ?_
      exact ⟨_, rfl, hw.below, rfl⟩
    rintro ⟨s14, s15⟩ a w hs ⟨ρ, hw, hf⟩
    subst hs
    have hF := hG13
    dsimp only at hF
    refine x_block <| n_then <| c_seq <| c_region ?_
    refine s_ hf (r_assign hf rfl) fun a hf => ?_
    refine c_nt ?_
    obtain ⟨ol21, ho21, hG21⟩ := of_bind hF
    clear hF
    refine c_block (c_loop (id := 6) (fun s => laws_heldProductS_l21 a0 s3 s.1 s.2) (fun (s : Int × Int) a w => match s with | (s22, s23) => ∃ ρ, Wd w0 ρ w ∧ Fr 64 a [(0, va0), (1, vI s22), (5, vI s3), (8, vI s23)]) (fun (s : Int × Int) a w => match s with | (s22, s23) => ∃ ρ, Wd w0 ρ w ∧ Fr 64 a [(0, va0), (1, vI s22), (5, vI s3)]) ho21 ⟨_, hw, hf.sub ⟨rfl, rfl, rfl, rfl, trivial⟩⟩ ?_ ?_)
    · rintro ⟨s22, s23⟩ lr a w ⟨ρ, hw, hf⟩ hF
      replace hF : laws_heldProductS_l21 a0 s3 s22 s23 = some lr := hF
      unfold laws_heldProductS_l21 at hF
      refine c_seq <| c_seq <| c_region ?_
      refine s_ hf (r_move hf rfl) fun a hf => ?_
      refine s_ hf (r_lss hf rfl rfl) fun a hf => ?_
      refine c_nt ?_
      rcases of_ite hF with ⟨hb24, hF⟩ | ⟨hb24, hF⟩
      rotate_left
      · refine c_iff hf rfl hb24 <| c_exit <| x_then ?_
        obtain rfl := Option.some.inj hF
        exact Rnd.stops ⟨_, hw, hf.sub ⟨rfl, rfl, rfl, trivial⟩⟩
      refine c_ift hf rfl hb24 <| c_skip <| n_then <| c_seq <| c_block <| c_seq <| c_seq <| c_region ?_
      refine s_ hf (r_move hf rfl) fun a hf => ?_
      refine s_ hf (r_move hf rfl) fun a hf => ?_
      refine s_ hf (r_move hf rfl) fun a hf => ?_
      obtain ⟨hc25, hF⟩ := of_guard hF
      obtain ⟨ad26, c26, he26, hl26⟩ := Ro.el cProd h0 zProd hc25.1 hc25.2
      refine s_ hf (r_idx Try.underlying37 sz82 hf rfl ⟨_, he26⟩ rfl hc25.1 hc25.2) fun a hf => ?_
      refine s_ hf (r_fa fa82_2 hf rfl) fun a hf => ?_
      obtain ⟨hc27, hF⟩ := of_guard hF
      refine s_ hf (r_indexAddr_arr Try.underlying80 sz5 hf rfl rfl hc27.1 hc27.2) fun a hf => ?_
      refine s_ hf (r_load_cell ty5 hf rfl (((hl26.below hw.below).lens lProd_2).lens (Lens.vec 0 fU8 s23 hc27.1 hc27.2))) fun a hf => ?_
      refine s_ hf (r_move hf rfl) fun a hf => ?_
      refine s_ hf (r_conv_i64_u8 Try.underlying3 Try.underlying5 hf rfl) fun a hf => ?_
      refine s_ hf (r_neq hf rfl rfl) fun a hf => ?_
      refine c_nt ?_
      rcases of_ite hF with ⟨hb28, hF⟩ | ⟨hb28, hF⟩
      rotate_left
      · refine c_iff hf rfl hb28 <| c_skip <| n_then <| c_region ?_
        refine s_ hf (r_move hf rfl) fun a hf => ?_
        refine s_ hf (r_add hf rfl rfl) fun a hf => ?_
        refine s_ hf (r_assign hf rfl) fun a hf => ?_
        refine c_nil <| n_block <| n_then <| c_region ?_
        refine s_ hf (r_move hf rfl) fun a hf => ?_
        refine s_ hf (r_add hf rfl rfl) fun a hf => ?_
        refine s_ hf (r_assign hf rfl) fun a hf => ?_
        refine c_nil ?_
        obtain rfl := Option.some.inj hF
        exact Rnd.goes ⟨_, hw, hf.sub ⟨rfl, rfl, rfl, rfl, trivial⟩⟩
      refine c_ift hf rfl hb28 <| c_seq <| c_region ?_
      refine s_ hf (r_assign hf rfl) fun a hf => ?_
      refine c_nt <| c_retc ?_
      obtain rfl := Option.some.inj hF
      refine r_then <| r_block <| r_then ?_
      refine Rnd.rets fun ho => ?_
      subst ho
      have hF := hG21
      dsimp only at hF
      obtain rfl := Option.some.inj hF
      refine r_block <| r_block <| r_then ?_
      refine Rnd.rets fun ho => ?_
      subst ho
      have hF := hG1
      dsimp only at hF
      obtain rfl := Option.some.inj hF
      refine r_block <| r_then <| c_ret hf (res_tmp Try.results97 hf rfl) ?_
      exact ⟨_, rfl, hw.below, rfl⟩
    rintro ⟨s22, s23⟩ a w hs ⟨ρ, hw, hf⟩
    subst hs
    have hF := hG21
    dsimp only at hF
    refine x_block <| n_block <| n_then <| c_region ?_
    refine s_ hf (r_move hf rfl) fun a hf => ?_
    refine s_ hf (r_add hf rfl rfl) fun a hf => ?_
    refine s_ hf (r_assign hf rfl) fun a hf => ?_
    refine c_nil ?_
    obtain rfl := Option.some.inj hF
    exact Rnd.goes ⟨_, hw, hf.sub ⟨rfl, rfl, rfl, trivial⟩⟩
  rintro ⟨s2, s3⟩ a w hs ⟨ρ, hw, hf⟩
  subst hs
  have hF := hG1
  dsimp only at hF
  refine x_block <| n_then <| c_seq <| c_region ?_
  refine s_ hf (r_move hf rfl) fun a hf => ?_
  refine s_ hf (r_assign hf rfl) fun a hf => ?_
  refine c_nt <| c_retc ?_
  obtain rfl := Option.some.inj hF
  refine c_ret hf (res_tmp Try.results97 hf rfl) ?_
  exact ⟨_, rfl, hw.below, rfl⟩
/-! f47 -/
noncomputable def laws_heldScheme (a0 : Sch) (a1 : Int) : Option Int :=
  (laws_heldProductS a0.ps a1).bind fun x1 => if (decide (x1 < 0)) = true then (some ((-1))) else (some (x1))
theorem laws_heldScheme_ok {w0 : World} {a0 : Sch} {a1 : Int} {va0 : Value} (h0 : Ro (kf cProd) w0 va0 a0.ps) {r : Int} (hF : laws_heldScheme a0 a1 = some r) :
    Calls Try.prog 47 [.agg ([vI a0.p, vI a0.n, vI a0.m, vI a0.k, va0]).toArray, vI a1].toArray w0 fun e w => ∃ v, e = .returned v ∧ Below w0.heap.size w0 w ∧ .int .i64 r = v := by
  refine calls_of (k := 12) Try.func47 rfl rfl (Nat.le_of_ble_eq_true rfl) fun a hf => ?_
  replace hf : Fr 12 a [(0, .agg ([vI a0.p, vI a0.n, vI a0.m, vI a0.k, va0]).toArray), (1, vI a1)] := hf
  refine c_start fun w ρ hw => ?_
  unfold laws_heldScheme at hF
  refine c_seq <| c_region ?_
  refine sx_ hf (r_box (cs := [vI a0.p, vI a0.n, vI a0.m, vI a0.k, va0]) 1 hw hf rfl rfl) fun a v w hf hΦ => ?_
  obtain ⟨g1, ρ, rfl, hw, hE, o1⟩ := hΦ
  refine s_ hf (r_assign hf rfl) fun a hf => ?_
  refine c_nt <| c_seq <| c_region ?_
  refine s_ hf (r_fa fa39_4 hf rfl) fun a hf => ?_
  refine s_ hf (r_load_cell ty37 hf rfl (o1.cl.at_ 4 _ rfl)) fun a hf => ?_
  refine s_ hf (r_move hf rfl) fun a hf => ?_
  obtain ⟨x1, hx2, hF⟩ := of_bind hF
  refine st_fn 2 hw hf rfl rfl (by decide) (r_fn en97 hf rfl) (laws_heldProductS_ok (h0.now hw) hx2) fun a v w ρ hf hw hE hN hΦ => ?_
  obtain rfl := hΦ
  replace o1 := o1.ext hE
  refine s_ hf (r_assign hf rfl) fun a hf => ?_
  refine c_nt <| c_seq <| c_seq <| c_region ?_
  refine s_ hf (r_move hf rfl) fun a hf => ?_
  refine s_ hf (r_lss hf rfl rfl) fun a hf => ?_
  refine c_nt ?_
  rcases of_ite hF with ⟨hb3, hF⟩ | ⟨hb3, hF⟩
  · refine c_ift hf rfl hb3 <| c_seq <| c_region ?_
    refine s_ hf (r_assign hf rfl) fun a hf => ?_
    refine c_nt <| c_retc ?_
    obtain rfl := Option.some.inj hF
    refine r_then <| c_ret hf (res_tmp Try.results47 hf rfl) ?_
    exact ⟨_, rfl, hw.below, rfl⟩
  refine c_iff hf rfl hb3 <| c_skip <| n_then <| c_seq <| c_region ?_
  refine s_ hf (r_move hf rfl) fun a hf => ?_
  refine s_ hf (r_assign hf rfl) fun a hf => ?_
  refine c_nt <| c_retc ?_
  obtain rfl := Option.some.inj hF
  refine c_ret hf (res_tmp Try.results47 hf rfl) ?_
  exact ⟨_, rfl, hw.below, rfl⟩
/-! f62 -/
noncomputable def impl_isPrime (a0 : Int) : Option Bool :=
  (if (decide (a0 = 2)) = true then (some true) else (if (decide (a0 = 3)) = true then (some true) else (some (decide (a0 = 5))))).bind fun (s2 : Bool) => some (s2)
theorem impl_isPrime_ok {w0 : World} {a0 : Int}   {r : Bool} (hF : impl_isPrime a0 = some r) :
    Calls Try.prog 62 [vI a0].toArray w0 fun e w => ∃ v, e = .returned v ∧ Below w0.heap.size w0 w ∧ .bool r = v := by
  refine calls_of (k := 13) Try.func62 rfl rfl (Nat.le_of_ble_eq_true rfl) fun a hf => ?_
  replace hf : Fr 13 a [(0, vI a0)] := hf
  refine c_start fun w ρ hw => ?_
  unfold impl_isPrime at hF
  refine c_seq <| c_region ?_
  refine s_ hf (r_assign hf rfl) fun a hf => ?_
  refine c_nt <| c_seq ?_
  obtain ⟨s2, hT1, hG1⟩ := of_bind hF
  clear hF
  refine c_meet (fun (s2 : Bool) a w => ∃ ρ, Wd w0 ρ w ∧ Fr 13 a [(2, .bool s2)]) s2 ?_ ?_
  · have hF := hT1
    refine c_region ?_
    refine s_ hf (r_move hf rfl) fun a hf => ?_
    refine s_ hf (r_eql hf rfl rfl) fun a hf => ?_
    refine s_ hf (r_move hf rfl) fun a hf => ?_
    rcases of_ite hF with ⟨hb3, hF⟩ | ⟨hb3, hF⟩
    · refine st_no (b := true) hf rfl rfl rfl hb3 rfl (by decide) fun a hf => ?_
      refine st_no (b := true) hf rfl rfl rfl hb3 rfl (by decide) fun a hf => ?_
      refine s_ hf (r_pick (b := true) hf rfl hb3 rfl) fun a hf => ?_
      refine s_ hf (r_move hf rfl) fun a hf => ?_
      refine st_no (b := true) hf rfl rfl rfl rfl rfl (by decide) fun a hf => ?_
      refine st_no (b := true) hf rfl rfl rfl rfl rfl (by decide) fun a hf => ?_
      refine s_ hf (r_pick (b := true) hf rfl rfl rfl) fun a hf => ?_
      refine s_ hf (r_assign hf rfl) fun a hf => ?_
      refine c_nil ⟨rfl, ?_⟩
      obtain rfl := Option.some.inj hF
      exact ⟨_, hw, hf.sub ⟨rfl, trivial⟩⟩
    refine st_g (b := false) hf rfl rfl rfl hb3 rfl (by decide) (r_move hf rfl) fun a hf => ?_
    refine st_g (b := false) hf rfl rfl rfl hb3 rfl (by decide) (r_eql hf rfl rfl) fun a hf => ?_
    refine s_ hf (r_pick (b := false) hf rfl hb3 rfl) fun a hf => ?_
    refine s_ hf (r_move hf rfl) fun a hf => ?_
    rcases of_ite hF with ⟨hb4, hF⟩ | ⟨hb4, hF⟩
    · refine st_no (b := true) hf rfl rfl rfl hb4 rfl (by decide) fun a hf => ?_
      refine st_no (b := true) hf rfl rfl rfl hb4 rfl (by decide) fun a hf => ?_
      refine s_ hf (r_pick (b := true) hf rfl hb4 rfl) fun a hf => ?_
      refine s_ hf (r_assign hf rfl) fun a hf => ?_
      refine c_nil ⟨rfl, ?_⟩
      obtain rfl := Option.some.inj hF
      exact ⟨_, hw, hf.sub ⟨rfl, trivial⟩⟩
    refine st_g (b := false) hf rfl rfl rfl hb4 rfl (by decide) (r_move hf rfl) fun a hf => ?_
    refine st_g (b := false) hf rfl rfl rfl hb4 rfl (by decide) (r_eql hf rfl rfl) fun a hf => ?_
    refine s_ hf (r_pick (b := false) hf rfl hb4 rfl) fun a hf => ?_
    refine s_ hf (r_assign hf rfl) fun a hf => ?_
    refine c_nil ⟨rfl, ?_⟩
    obtain rfl := Option.some.inj hF
    exact ⟨_, hw, hf.sub ⟨rfl, trivial⟩⟩
  rintro a w ⟨ρ, hw, hf⟩
  have hF := hG1
  refine n_then <| c_retc ?_
  obtain rfl := Option.some.inj hF
  refine c_ret hf (res_tmp Try.results62 hf rfl) ?_
  exact ⟨_, rfl, hw.below, rfl⟩
/-! f63 -/
noncomputable def impl_isSize_l1 (a0 : List Int) (s2 : Int) : Option (LR Int Bool) :=
  if (decide (s2 < (a0.length : Int))) = true then (if 0 ≤ s2 ∧ s2 < (a0.length : Int) then ((if (decide ((gl 0 a0 s2) < 1)) = true then (some true) else (some (decide (3 < (gl 0 a0 s2))))).bind fun (s7 : Bool) => if s7 = true then (some (.ret false)) else (some (.next (w64 (s2 + 1))))) else none) else (some (.stop s2))
noncomputable def impl_isSize (a0 : List Int) : Option Bool :=
  (iter (fun s => impl_isSize_l1 a0 s) 0).bind fun o => match o with | .stop s2 => (some (true)) | .ret r => some r | .next _ => none
theorem impl_isSize_ok {w0 : World} {a0 : List Int} {va0 : Value} (h0 : Ro (kf fI64) w0 va0 a0) {r : Bool} (hF : impl_isSize a0 = some r) :
    Calls Try.prog 63 [va0].toArray w0 fun e w => ∃ v, e = .returned v ∧ Below w0.heap.size w0 w ∧ .bool r = v := by
  refine calls_of (k := 18) Try.func63 rfl rfl (Nat.le_of_ble_eq_true rfl) fun a hf => ?_
  replace hf : Fr 18 a [(0, va0)] := hf
  refine c_start fun w ρ hw => ?_
  unfold impl_isSize at hF
  refine c_seq <| c_region ?_
  refine s_ hf (r_assign hf rfl) fun a hf => ?_
  refine c_nt <| c_seq <| c_seq <| c_region ?_
  refine s_ hf (r_move hf rfl) fun a hf => ?_
  refine s_ hf (r_len Try.underlying36 (h0.now hw) hf rfl) fun a hf => ?_
  refine s_ hf (r_move hf rfl) fun a hf => ?_
  refine c_nt ?_
  obtain ⟨ol1, ho1, hG1⟩ := of_bind hF
  clear hF
  refine c_block (c_loop (id := 0) (fun s => impl_isSize_l1 a0 s) (fun (s2 : Int) a w => ∃ ρ, Wd w0 ρ w ∧ Fr 18 a [(5, va0), (6, vI (a0.length : Int)), (7, vI s2)]) (fun (s2 : Int) a w => ∃ ρ, Wd w0 ρ w ∧ Fr 18 a []) ho1 ⟨_, hw, hf.sub ⟨rfl, rfl, rfl, trivial⟩⟩ ?_ ?_)
  · rintro s2 lr a w ⟨ρ, hw, hf⟩ hF
    replace hF : impl_isSize_l1 a0 s2 = some lr := hF
    unfold impl_isSize_l1 at hF
    refine c_seq <| c_region ?_
    refine s_ hf (r_lss hf rfl rfl) fun a hf => ?_
    refine c_nt <| c_seq ?_
    rcases of_ite hF with ⟨hb3, hF⟩ | ⟨hb3, hF⟩
    rotate_left
    · refine c_iff hf rfl hb3 <| c_exit <| x_then ?_
      obtain rfl := Option.some.inj hF
      exact Rnd.stops ⟨_, hw, hf.sub trivial⟩
    refine c_ift hf rfl hb3 <| c_skip <| n_then <| c_seq <| c_block <| c_seq <| c_region ?_
    obtain ⟨hc4, hF⟩ := of_guard hF
    obtain ⟨ad5, c5, he5, hl5⟩ := Ro.el fI64 h0 0 hc4.1 hc4.2
    refine s_ hf (r_idx Try.underlying36 sz2 hf rfl ⟨_, he5⟩ rfl hc4.1 hc4.2) fun a hf => ?_
    refine s_ hf (r_load_cell ty2 hf rfl (hl5.below hw.below)) fun a hf => ?_
    refine s_ hf (r_assign hf rfl) fun a hf => ?_
    refine c_nt <| c_seq ?_
    obtain ⟨s7, hT6, hG6⟩ := of_bind hF
    clear hF
    refine c_meet (fun (s7 : Bool) a w => ∃ ρ, Wd w0 ρ w ∧ Fr 18 a [(5, va0), (6, vI (a0.length : Int)), (7, vI s2), (16, .bool s7)]) s7 ?_ ?_
    · have hF := hT6
      refine c_region ?_
      refine s_ hf (r_move hf rfl) fun a hf => ?_
      refine s_ hf (r_lss hf rfl rfl) fun a hf => ?_
      refine s_ hf (r_move hf rfl) fun a hf => ?_
      rcases of_ite hF with ⟨hb8, hF⟩ | ⟨hb8, hF⟩
      · refine st_no (b := true) hf rfl rfl rfl hb8 rfl (by decide) fun a hf => ?_
        refine st_no (b := true) hf rfl rfl rfl hb8 rfl (by decide) fun a hf => ?_
        refine s_ hf (r_pick (b := true) hf rfl hb8 rfl) fun a hf => ?_
        refine c_nil ⟨rfl, ?_⟩
        obtain rfl := Option.some.inj hF
        exact ⟨_, hw, hf.sub ⟨rfl, rfl, rfl, rfl, trivial⟩⟩
      refine st_g (b := false) hf rfl rfl rfl hb8 rfl (by decide) (r_move hf rfl) fun a hf => ?_
      refine st_g (b := false) hf rfl rfl rfl hb8 rfl (by decide) (r_gtr hf rfl rfl) fun a hf => ?_
      refine s_ hf (r_pick (b := false) hf rfl hb8 rfl) fun a hf => ?_
      refine c_nil ⟨rfl, ?_⟩
      obtain rfl := Option.some.inj hF
      exact ⟨_, hw, hf.sub ⟨rfl, rfl, rfl, rfl, trivial⟩⟩
    rintro a w ⟨ρ, hw, hf⟩
    have hF := hG6
    refine n_then ?_
    rcases of_ite hF with ⟨hb9, hF⟩ | ⟨hb9, hF⟩
    rotate_left
    · refine c_iff hf rfl hb9 <| c_skip <| n_block <| n_then <| c_region ?_
      refine s_ hf (r_add hf rfl rfl) fun a hf => ?_
      refine s_ hf (r_move hf rfl) fun a hf => ?_
      refine c_nil ?_
      obtain rfl := Option.some.inj hF
      exact Rnd.goes ⟨_, hw, hf.sub ⟨rfl, rfl, rfl, trivial⟩⟩
    refine c_ift hf rfl hb9 <| c_seq <| c_region ?_
    refine s_ hf (r_assign hf rfl) fun a hf => ?_
    refine c_nt <| c_retc ?_
    obtain rfl := Option.some.inj hF
    refine r_block <| r_then ?_
    refine Rnd.rets fun ho => ?_
    subst ho
    have hF := hG1
    dsimp only at hF
    obtain rfl := Option.some.inj hF
    refine r_block <| r_then <| c_ret hf (res_tmp Try.results63 hf rfl) ?_
    exact ⟨_, rfl, hw.below, rfl⟩
  rintro s2 a w hs ⟨ρ, hw, hf⟩
  subst hs
  have hF := hG1
  dsimp only at hF
  refine x_block <| n_then <| c_seq <| c_region ?_
  refine s_ hf (r_assign hf rfl) fun a hf => ?_
  refine c_nt <| c_retc ?_
  obtain rfl := Option.some.inj hF
  refine c_ret hf (res_tmp Try.results63 hf rfl) ?_
  exact ⟨_, rfl, hw.below, rfl⟩
/-! f65 -/
noncomputable def spec_l01Prime (a0 : Int) : Option Bool :=
  (if (decide (a0 = 2)) = true then (some true) else (if (decide (a0 = 3)) = true then (some true) else (some (decide (a0 = 5))))).bind fun (s2 : Bool) => some (s2)
theorem spec_l01Prime_ok {w0 : World} {a0 : Int}   {r : Bool} (hF : spec_l01Prime a0 = some r) :
    Calls Try.prog 65 [vI a0].toArray w0 fun e w => ∃ v, e = .returned v ∧ Below w0.heap.size w0 w ∧ .bool r = v := by
  refine calls_of (k := 13) Try.func65 rfl rfl (Nat.le_of_ble_eq_true rfl) fun a hf => ?_
  replace hf : Fr 13 a [(0, vI a0)] := hf
  refine c_start fun w ρ hw => ?_
  unfold spec_l01Prime at hF
  refine c_seq <| c_region ?_
  refine s_ hf (r_assign hf rfl) fun a hf => ?_
  refine c_nt <| c_seq ?_
  obtain ⟨s2, hT1, hG1⟩ := of_bind hF
  clear hF
  refine c_meet (fun (s2 : Bool) a w => ∃ ρ, Wd w0 ρ w ∧ Fr 13 a [(2, .bool s2)]) s2 ?_ ?_
  · have hF := hT1
    refine c_region ?_
    refine s_ hf (r_move hf rfl) fun a hf => ?_
    refine s_ hf (r_eql hf rfl rfl) fun a hf => ?_
    refine s_ hf (r_move hf rfl) fun a hf => ?_
    rcases of_ite hF with ⟨hb3, hF⟩ | ⟨hb3, hF⟩
    · refine st_no (b := true) hf rfl rfl rfl hb3 rfl (by decide) fun a hf => ?_
      refine st_no (b := true) hf rfl rfl rfl hb3 rfl (by decide) fun a hf => ?_
      refine s_ hf (r_pick (b := true) hf rfl hb3 rfl) fun a hf => ?_
      refine s_ hf (r_move hf rfl) fun a hf => ?_
      refine st_no (b := true) hf rfl rfl rfl rfl rfl (by decide) fun a hf => ?_
      refine st_no (b := true) hf rfl rfl rfl rfl rfl (by decide) fun a hf => ?_
      refine s_ hf (r_pick (b := true) hf rfl rfl rfl) fun a hf => ?_
      refine s_ hf (r_assign hf rfl) fun a hf => ?_
      refine c_nil ⟨rfl, ?_⟩
      obtain rfl := Option.some.inj hF
      exact ⟨_, hw, hf.sub ⟨rfl, trivial⟩⟩
    refine st_g (b := false) hf rfl rfl rfl hb3 rfl (by decide) (r_move hf rfl) fun a hf => ?_
    refine st_g (b := false) hf rfl rfl rfl hb3 rfl (by decide) (r_eql hf rfl rfl) fun a hf => ?_
    refine s_ hf (r_pick (b := false) hf rfl hb3 rfl) fun a hf => ?_
    refine s_ hf (r_move hf rfl) fun a hf => ?_
    rcases of_ite hF with ⟨hb4, hF⟩ | ⟨hb4, hF⟩
    · refine st_no (b := true) hf rfl rfl rfl hb4 rfl (by decide) fun a hf => ?_
      refine st_no (b := true) hf rfl rfl rfl hb4 rfl (by decide) fun a hf => ?_
      refine s_ hf (r_pick (b := true) hf rfl hb4 rfl) fun a hf => ?_
      refine s_ hf (r_assign hf rfl) fun a hf => ?_
      refine c_nil ⟨rfl, ?_⟩
      obtain rfl := Option.some.inj hF
      exact ⟨_, hw, hf.sub ⟨rfl, trivial⟩⟩
    refine st_g (b := false) hf rfl rfl rfl hb4 rfl (by decide) (r_move hf rfl) fun a hf => ?_
    refine st_g (b := false) hf rfl rfl rfl hb4 rfl (by decide) (r_eql hf rfl rfl) fun a hf => ?_
    refine s_ hf (r_pick (b := false) hf rfl hb4 rfl) fun a hf => ?_
    refine s_ hf (r_assign hf rfl) fun a hf => ?_
    refine c_nil ⟨rfl, ?_⟩
    obtain rfl := Option.some.inj hF
    exact ⟨_, hw, hf.sub ⟨rfl, trivial⟩⟩
  rintro a w ⟨ρ, hw, hf⟩
  have hF := hG1
  refine n_then <| c_retc ?_
  obtain rfl := Option.some.inj hF
  refine c_ret hf (res_tmp Try.results65 hf rfl) ?_
  exact ⟨_, rfl, hw.below, rfl⟩
/-! f66 -/
noncomputable def spec_l01In (a0 : Int) (a1 : Int) (a2 : Int) : Option Bool :=
  (if (decide (a1 ≤ a0)) = true then (some (decide (a0 ≤ a2))) else (some false)).bind fun (s2 : Bool) => some (s2)
theorem spec_l01In_ok {w0 : World} {a0 : Int} {a1 : Int} {a2 : Int}   {r : Bool} (hF : spec_l01In a0 a1 a2 = some r) :
    Calls Try.prog 66 [vI a0, vI a1, vI a2].toArray w0 fun e w => ∃ v, e = .returned v ∧ Below w0.heap.size w0 w ∧ .bool r = v := by
  refine calls_of (k := 15) Try.func66 rfl rfl (Nat.le_of_ble_eq_true rfl) fun a hf => ?_
  replace hf : Fr 15 a [(0, vI a0), (1, vI a1), (2, vI a2)] := hf
  refine c_start fun w ρ hw => ?_
  unfold spec_l01In at hF
  refine c_seq <| c_region ?_
  refine s_ hf (r_assign hf rfl) fun a hf => ?_
  refine c_nt <| c_seq ?_
  obtain ⟨s2, hT1, hG1⟩ := of_bind hF
  clear hF
  refine c_meet (fun (s2 : Bool) a w => ∃ ρ, Wd w0 ρ w ∧ Fr 15 a [(6, .bool s2)]) s2 ?_ ?_
  · have hF := hT1
    refine c_region ?_
    refine s_ hf (r_move hf rfl) fun a hf => ?_
    refine s_ hf (r_move hf rfl) fun a hf => ?_
    refine s_ hf (r_geq hf rfl rfl) fun a hf => ?_
    refine s_ hf (r_move hf rfl) fun a hf => ?_
    rcases of_ite hF with ⟨hb3, hF⟩ | ⟨hb3, hF⟩
    rotate_left
    · refine st_no (b := false) hf rfl rfl rfl hb3 rfl (by decide) fun a hf => ?_
      refine st_no (b := false) hf rfl rfl rfl hb3 rfl (by decide) fun a hf => ?_
      refine st_no (b := false) hf rfl rfl rfl hb3 rfl (by decide) fun a hf => ?_
      refine s_ hf (r_pick (b := false) hf rfl hb3 rfl) fun a hf => ?_
      refine s_ hf (r_assign hf rfl) fun a hf => ?_
      refine c_nil ⟨rfl, ?_⟩
      obtain rfl := Option.some.inj hF
      exact ⟨_, hw, hf.sub ⟨rfl, trivial⟩⟩
    refine st_g (b := true) hf rfl rfl rfl hb3 rfl (by decide) (r_move hf rfl) fun a hf => ?_
    refine st_g (b := true) hf rfl rfl rfl hb3 rfl (by decide) (r_move hf rfl) fun a hf => ?_
    refine st_g (b := true) hf rfl rfl rfl hb3 rfl (by decide) (r_leq hf rfl rfl) fun a hf => ?_
    refine s_ hf (r_pick (b := true) hf rfl hb3 rfl) fun a hf => ?_
    refine s_ hf (r_assign hf rfl) fun a hf => ?_
    refine c_nil ⟨rfl, ?_⟩
    obtain rfl := Option.some.inj hF
    exact ⟨_, hw, hf.sub ⟨rfl, trivial⟩⟩
  rintro a w ⟨ρ, hw, hf⟩
  have hF := hG1
  refine n_then <| c_retc ?_
  obtain rfl := Option.some.inj hF
  refine c_ret hf (res_tmp Try.results66 hf rfl) ?_
  exact ⟨_, rfl, hw.below, rfl⟩
/-! f124 -/
noncomputable def spec_l01Sizes (a0 : Int) (a1 : Int) (a2 : Int) (a3 : Int) : Option Bool :=
  ((spec_l01Prime a0).bind fun x3 => if x3 = true then ((spec_l01In a1 1 3).bind fun x6 => if x6 = true then ((spec_l01In a2 1 3).bind fun x9 => if x9 = true then ((spec_l01In a3 1 3).bind fun x12 => some x12) else (some false)) else (some false)) else (some false)).bind fun (s2 : Bool) => some (s2)
theorem spec_l01Sizes_ok {w0 : World} {a0 : Int} {a1 : Int} {a2 : Int} {a3 : Int}   {r : Bool} (hF : spec_l01Sizes a0 a1 a2 a3 = some r) :
    Calls Try.prog 124 [vI a0, vI a1, vI a2, vI a3].toArray w0 fun e w => ∃ v, e = .returned v ∧ Below w0.heap.size w0 w ∧ .bool r = v := by
  refine calls_of (k := 23) Try.func124 rfl rfl (Nat.le_of_ble_eq_true rfl) fun a hf => ?_
  replace hf : Fr 23 a [(0, vI a0), (1, vI a1), (2, vI a2), (3, vI a3)] := hf
  refine c_start fun w ρ hw => ?_
  unfold spec_l01Sizes at hF
  refine c_seq <| c_region ?_
  refine s_ hf (r_assign hf rfl) fun a hf => ?_
  refine c_nt <| c_seq ?_
  obtain ⟨s2, hT1, hG1⟩ := of_bind hF
  clear hF
  refine c_meet (fun (s2 : Bool) a w => ∃ ρ, Wd w0 ρ w ∧ Fr 23 a [(8, .bool s2)]) s2 ?_ ?_
  · have hF := hT1
    refine c_region ?_
    refine s_ hf (r_move hf rfl) fun a hf => ?_
    obtain ⟨x3, hx4, hF⟩ := of_bind hF
    refine st_fn 1 hw hf rfl rfl (by decide) (r_fn en65 hf rfl) (spec_l01Prime_ok  hx4) fun a v w ρ hf hw hE hN hΦ => ?_
    obtain rfl := hΦ
    refine s_ hf (r_move hf rfl) fun a hf => ?_
    rcases of_ite hF with ⟨hb5, hF⟩ | ⟨hb5, hF⟩
    rotate_left
    · refine st_no (b := false) hf rfl rfl rfl hb5 rfl (by decide) fun a hf => ?_
      refine st_no (b := false) hf rfl rfl rfl hb5 rfl (by decide) fun a hf => ?_
      refine s_ hf (r_pick (b := false) hf rfl hb5 rfl) fun a hf => ?_
      refine s_ hf (r_move hf rfl) fun a hf => ?_
      refine st_no (b := false) hf rfl rfl rfl rfl rfl (by decide) fun a hf => ?_
      refine st_no (b := false) hf rfl rfl rfl rfl rfl (by decide) fun a hf => ?_
      refine s_ hf (r_pick (b := false) hf rfl rfl rfl) fun a hf => ?_
      refine s_ hf (r_move hf rfl) fun a hf => ?_
      refine st_no (b := false) hf rfl rfl rfl rfl rfl (by decide) fun a hf => ?_
      refine st_no (b := false) hf rfl rfl rfl rfl rfl (by decide) fun a hf => ?_
      refine s_ hf (r_pick (b := false) hf rfl rfl rfl) fun a hf => ?_
      refine s_ hf (r_assign hf rfl) fun a hf => ?_
      refine c_nil ⟨rfl, ?_⟩
      obtain rfl := Option.some.inj hF
      exact ⟨_, hw, hf.sub ⟨rfl, trivial⟩⟩
    refine st_g (b := true) hf rfl rfl rfl hb5 rfl (by decide) (r_move hf rfl) fun a hf => ?_
    obtain ⟨x6, hx7, hF⟩ := of_bind hF
    refine st_gfn (b := true) 2 hw hf rfl rfl rfl hb5 rfl (by decide) (r_fn en66 hf rfl) (spec_l01In_ok  hx7) fun a v w ρ hf hw hE hN hΦ => ?_
    obtain rfl := hΦ
    refine s_ hf (r_pick (b := true) hf rfl hb5 rfl) fun a hf => ?_
    refine s_ hf (r_move hf rfl) fun a hf => ?_
    rcases of_ite hF with ⟨hb8, hF⟩ | ⟨hb8, hF⟩
    rotate_left
    · refine st_no (b := false) hf rfl rfl rfl hb8 rfl (by decide) fun a hf => ?_
      refine st_no (b := false) hf rfl rfl rfl hb8 rfl (by decide) fun a hf => ?_
      refine s_ hf (r_pick (b := false) hf rfl hb8 rfl) fun a hf => ?_
      refine s_ hf (r_move hf rfl) fun a hf => ?_
      refine st_no (b := false) hf rfl rfl rfl rfl rfl (by decide) fun a hf => ?_
      refine st_no (b := false) hf rfl rfl rfl rfl rfl (by decide) fun a hf => ?_
      refine s_ hf (r_pick (b := false) hf rfl rfl rfl) fun a hf => ?_
      refine s_ hf (r_assign hf rfl) fun a hf => ?_
      refine c_nil ⟨rfl, ?_⟩
      obtain rfl := Option.some.inj hF
      exact ⟨_, hw, hf.sub ⟨rfl, trivial⟩⟩
    refine st_g (b := true) hf rfl rfl rfl hb8 rfl (by decide) (r_move hf rfl) fun a hf => ?_
    obtain ⟨x9, hx10, hF⟩ := of_bind hF
    refine st_gfn (b := true) 3 hw hf rfl rfl rfl hb8 rfl (by decide) (r_fn en66 hf rfl) (spec_l01In_ok  hx10) fun a v w ρ hf hw hE hN hΦ => ?_
    obtain rfl := hΦ
    refine s_ hf (r_pick (b := true) hf rfl hb8 rfl) fun a hf => ?_
    refine s_ hf (r_move hf rfl) fun a hf => ?_
    rcases of_ite hF with ⟨hb11, hF⟩ | ⟨hb11, hF⟩
    rotate_left
    · refine st_no (b := false) hf rfl rfl rfl hb11 rfl (by decide) fun a hf => ?_
      refine st_no (b := false) hf rfl rfl rfl hb11 rfl (by decide) fun a hf => ?_
      refine s_ hf (r_pick (b := false) hf rfl hb11 rfl) fun a hf => ?_
      refine s_ hf (r_assign hf rfl) fun a hf => ?_
      refine c_nil ⟨rfl, ?_⟩
      obtain rfl := Option.some.inj hF
      exact ⟨_, hw, hf.sub ⟨rfl, trivial⟩⟩
    refine st_g (b := true) hf rfl rfl rfl hb11 rfl (by decide) (r_move hf rfl) fun a hf => ?_
    obtain ⟨x12, hx13, hF⟩ := of_bind hF
    refine st_gfn (b := true) 4 hw hf rfl rfl rfl hb11 rfl (by decide) (r_fn en66 hf rfl) (spec_l01In_ok  hx13) fun a v w ρ hf hw hE hN hΦ => ?_
    obtain rfl := hΦ
    refine s_ hf (r_pick (b := true) hf rfl hb11 rfl) fun a hf => ?_
    refine s_ hf (r_assign hf rfl) fun a hf => ?_
    refine c_nil ⟨rfl, ?_⟩
    obtain rfl := Option.some.inj hF
    exact ⟨_, hw, hf.sub ⟨rfl, trivial⟩⟩
  rintro a w ⟨ρ, hw, hf⟩
  have hF := hG1
  refine n_then <| c_retc ?_
  obtain rfl := Option.some.inj hF
  refine c_ret hf (res_tmp Try.results124 hf rfl) ?_
  exact ⟨_, rfl, hw.below, rfl⟩
/-! f155 -/
noncomputable def spec_l01Lengths (a0 : Sch) : Option (Int × Int × Int) :=
  some ((w64 (a0.n * a0.m), w64 (a0.m * a0.k), w64 (a0.n * a0.k)))
theorem spec_l01Lengths_ok {w0 : World} {a0 : Sch} {va0 : Value} (h0 : Ro (kf cProd) w0 va0 a0.ps) {r : Int × Int × Int} (hF : spec_l01Lengths a0 = some r) :
    Calls Try.prog 155 [.agg ([vI a0.p, vI a0.n, vI a0.m, vI a0.k, va0]).toArray].toArray w0 fun e w => ∃ v, e = .returned v ∧ Below w0.heap.size w0 w ∧ .tuple #[.int .i64 r.1, .int .i64 r.2.1, .int .i64 r.2.2] = v := by
  refine calls_of (k := 20) Try.func155 rfl rfl (Nat.le_of_ble_eq_true rfl) fun a hf => ?_
  replace hf : Fr 20 a [(0, .agg ([vI a0.p, vI a0.n, vI a0.m, vI a0.k, va0]).toArray)] := hf
  refine c_start fun w ρ hw => ?_
  unfold spec_l01Lengths at hF
  refine c_seq <| c_region ?_
  refine sx_ hf (r_box (cs := [vI a0.p, vI a0.n, vI a0.m, vI a0.k, va0]) 1 hw hf rfl rfl) fun a v w hf hΦ => ?_
  obtain ⟨g1, ρ, rfl, hw, hE, o1⟩ := hΦ
  refine s_ hf (r_assign hf rfl) fun a hf => ?_
  refine s_ hf (r_assign hf rfl) fun a hf => ?_
  refine s_ hf (r_assign hf rfl) fun a hf => ?_
  refine c_nt <| c_seq ?_
  replace hf : Fr 20 a [(1, .pointer (some ((⟨g1, 0, none⟩ : Addr).add 0)))] := hf.sub ⟨rfl, trivial⟩
  refine c_drawL (h := 17) mixed (by kernel_rfl) (by kernel_rfl) (fun ρ w => Va ρ w 1 g1 39 ([vI a0.p, vI a0.n, vI a0.m, vI a0.k, va0])) ?_ [fun ρ w v => .pointer (some ((⟨g1, 0, none⟩ : Addr).add (0 + 1))) = v, fun ρ w v => vI a0.n = v, fun ρ w v => .pointer (some ((⟨g1, 0, none⟩ : Addr).add (0 + 2))) = v, fun ρ w v => vI a0.m = v, fun ρ w v => vI (w64 (a0.n * a0.m)) = v, fun ρ w v => .pointer (some ((⟨g1, 0, none⟩ : Addr).add (0 + 2))) = v, fun ρ w v => vI a0.m = v, fun ρ w v => .pointer (some ((⟨g1, 0, none⟩ : Addr).add (0 + 3))) = v, fun ρ w v => vI a0.k = v, fun ρ w v => vI (w64 (a0.m * a0.k)) = v, fun ρ w v => .pointer (some ((⟨g1, 0, none⟩ : Addr).add (0 + 1))) = v, fun ρ w v => vI a0.n = v, fun ρ w v => .pointer (some ((⟨g1, 0, none⟩ : Addr).add (0 + 3))) = v, fun ρ w v => vI a0.k = v, fun ρ w v => vI (w64 (a0.n * a0.k)) = v, fun ρ w v => vI (w64 (a0.n * a0.m)) = v, fun ρ w v => vI (w64 (a0.m * a0.k)) = v] ?_ hw o1 hf ?_ ?_
  · intro ρ w ρ' w' hE hG
    have o1 : Va ρ w 1 g1 39 ([vI a0.p, vI a0.n, vI a0.m, vI a0.k, va0]) := hG
    exact o1.ext hE
  · exact LastsL.cons (fun _ _ _ _ _ _ h => h) <| LastsL.cons (fun _ _ _ _ _ _ h => h) <| LastsL.cons (fun _ _ _ _ _ _ h => h) <| LastsL.cons (fun _ _ _ _ _ _ h => h) <| LastsL.cons (fun _ _ _ _ _ _ h => h) <| LastsL.cons (fun _ _ _ _ _ _ h => h) <| LastsL.cons (fun _ _ _ _ _ _ h => h) <| LastsL.cons (fun _ _ _ _ _ _ h => h) <| LastsL.cons (fun _ _ _ _ _ _ h => h) <| LastsL.cons (fun _ _ _ _ _ _ h => h) <| LastsL.cons (fun _ _ _ _ _ _ h => h) <| LastsL.cons (fun _ _ _ _ _ _ h => h) <| LastsL.cons (fun _ _ _ _ _ _ h => h) <| LastsL.cons (fun _ _ _ _ _ _ h => h) <| LastsL.cons (fun _ _ _ _ _ _ h => h) <| LastsL.cons (fun _ _ _ _ _ _ h => h) <| LastsL.cons (fun _ _ _ _ _ _ h => h) <| LastsL.nil
  · refine StepsB.cons ?_ <| StepsB.cons ?_ <| StepsB.cons ?_ <| StepsB.cons ?_ <| StepsB.cons ?_ <| StepsB.cons ?_ <| StepsB.cons ?_ <| StepsB.cons ?_ <| StepsB.cons ?_ <| StepsB.cons ?_ <| StepsB.cons ?_ <| StepsB.cons ?_ <| StepsB.cons ?_ <| StepsB.cons ?_ <| StepsB.cons ?_ <| StepsB.cons ?_ <| StepsB.cons ?_ <| StepsB.nil
    · intro ρ w a hw hG hf hd K hK
      have o1 : Va ρ w 1 g1 39 ([vI a0.p, vI a0.n, vI a0.m, vI a0.k, va0]) := hG
      exact dv_ hK hw (wn rfl) (r_fa fa39_1 hf rfl) rfl
    · intro ρ w a hw hG hf hd K hK
      have o1 : Va ρ w 1 g1 39 ([vI a0.p, vI a0.n, vI a0.m, vI a0.k, va0]) := hG
      obtain ⟨_, hf, rfl⟩ := got (hd 0 (by kernel_rfl)) hf
      exact dv_ hK hw (wn rfl) (r_load_cell ty2 hf rfl (o1.cl.at_ 1 _ rfl)) rfl
    · intro ρ w a hw hG hf hd K hK
      have o1 : Va ρ w 1 g1 39 ([vI a0.p, vI a0.n, vI a0.m, vI a0.k, va0]) := hG
      exact dv_ hK hw (wn rfl) (r_fa fa39_2 hf rfl) rfl
    · intro ρ w a hw hG hf hd K hK
      have o1 : Va ρ w 1 g1 39 ([vI a0.p, vI a0.n, vI a0.m, vI a0.k, va0]) := hG
      obtain ⟨_, hf, rfl⟩ := got (hd 2 (by kernel_rfl)) hf
      exact dv_ hK hw (wn rfl) (r_load_cell ty2 hf rfl (o1.cl.at_ 2 _ rfl)) rfl
    · intro ρ w a hw hG hf hd K hK
      have o1 : Va ρ w 1 g1 39 ([vI a0.p, vI a0.n, vI a0.m, vI a0.k, va0]) := hG
      obtain ⟨_, hf, rfl⟩ := got (hd 1 (by kernel_rfl)) hf
      obtain ⟨_, hf, rfl⟩ := got (hd 3 (by kernel_rfl)) hf
      exact dv_ hK hw (wn rfl) (r_mul hf rfl rfl) rfl
    · intro ρ w a hw hG hf hd K hK
      have o1 : Va ρ w 1 g1 39 ([vI a0.p, vI a0.n, vI a0.m, vI a0.k, va0]) := hG
      exact dv_ hK hw (wn rfl) (r_fa fa39_2 hf rfl) rfl
    · intro ρ w a hw hG hf hd K hK
      have o1 : Va ρ w 1 g1 39 ([vI a0.p, vI a0.n, vI a0.m, vI a0.k, va0]) := hG
      obtain ⟨_, hf, rfl⟩ := got (hd 5 (by kernel_rfl)) hf
      exact dv_ hK hw (wn rfl) (r_load_cell ty2 hf rfl (o1.cl.at_ 2 _ rfl)) rfl
    · intro ρ w a hw hG hf hd K hK
      have o1 : Va ρ w 1 g1 39 ([vI a0.p, vI a0.n, vI a0.m, vI a0.k, va0]) := hG
      exact dv_ hK hw (wn rfl) (r_fa fa39_3 hf rfl) rfl
    · intro ρ w a hw hG hf hd K hK
      have o1 : Va ρ w 1 g1 39 ([vI a0.p, vI a0.n, vI a0.m, vI a0.k, va0]) := hG
      obtain ⟨_, hf, rfl⟩ := got (hd 7 (by kernel_rfl)) hf
      exact dv_ hK hw (wn rfl) (r_load_cell ty2 hf rfl (o1.cl.at_ 3 _ rfl)) rfl
    · intro ρ w a hw hG hf hd K hK
      have o1 : Va ρ w 1 g1 39 ([vI a0.p, vI a0.n, vI a0.m, vI a0.k, va0]) := hG
      obtain ⟨_, hf, rfl⟩ := got (hd 6 (by kernel_rfl)) hf
      obtain ⟨_, hf, rfl⟩ := got (hd 8 (by kernel_rfl)) hf
      exact dv_ hK hw (wn rfl) (r_mul hf rfl rfl) rfl
    · intro ρ w a hw hG hf hd K hK
      have o1 : Va ρ w 1 g1 39 ([vI a0.p, vI a0.n, vI a0.m, vI a0.k, va0]) := hG
      exact dv_ hK hw (wn rfl) (r_fa fa39_1 hf rfl) rfl
    · intro ρ w a hw hG hf hd K hK
      have o1 : Va ρ w 1 g1 39 ([vI a0.p, vI a0.n, vI a0.m, vI a0.k, va0]) := hG
      obtain ⟨_, hf, rfl⟩ := got (hd 10 (by kernel_rfl)) hf
      exact dv_ hK hw (wn rfl) (r_load_cell ty2 hf rfl (o1.cl.at_ 1 _ rfl)) rfl
    · intro ρ w a hw hG hf hd K hK
      have o1 : Va ρ w 1 g1 39 ([vI a0.p, vI a0.n, vI a0.m, vI a0.k, va0]) := hG
      exact dv_ hK hw (wn rfl) (r_fa fa39_3 hf rfl) rfl
    · intro ρ w a hw hG hf hd K hK
      have o1 : Va ρ w 1 g1 39 ([vI a0.p, vI a0.n, vI a0.m, vI a0.k, va0]) := hG
      obtain ⟨_, hf, rfl⟩ := got (hd 12 (by kernel_rfl)) hf
      exact dv_ hK hw (wn rfl) (r_load_cell ty2 hf rfl (o1.cl.at_ 3 _ rfl)) rfl
    · intro ρ w a hw hG hf hd K hK
      have o1 : Va ρ w 1 g1 39 ([vI a0.p, vI a0.n, vI a0.m, vI a0.k, va0]) := hG
      obtain ⟨_, hf, rfl⟩ := got (hd 11 (by kernel_rfl)) hf
      obtain ⟨_, hf, rfl⟩ := got (hd 13 (by kernel_rfl)) hf
      exact dv_ hK hw (wn rfl) (r_mul hf rfl rfl) rfl
    · intro ρ w a hw hG hf hd K hK
      have o1 : Va ρ w 1 g1 39 ([vI a0.p, vI a0.n, vI a0.m, vI a0.k, va0]) := hG
      obtain ⟨_, hf, rfl⟩ := got (hd 4 (by kernel_rfl)) hf
      exact dv_ hK hw (wn rfl) (r_assign hf rfl) rfl
    · intro ρ w a hw hG hf hd K hK
      have o1 : Va ρ w 1 g1 39 ([vI a0.p, vI a0.n, vI a0.m, vI a0.k, va0]) := hG
      obtain ⟨_, hf, rfl⟩ := got (hd 9 (by kernel_rfl)) hf
      exact dv_ hK hw (wn rfl) (r_assign hf rfl) rfl
  intro ρ w a hw hG hf hd
  have o1 : Va ρ w 1 g1 39 ([vI a0.p, vI a0.n, vI a0.m, vI a0.k, va0]) := hG
  obtain ⟨_, hf, rfl⟩ := got (hd 14 (by decide)) hf
  obtain ⟨_, hf, rfl⟩ := got (hd 15 (by decide)) hf
  obtain ⟨_, hf, rfl⟩ := got (hd 16 (by decide)) hf
  refine s_ hf (r_assign hf rfl) fun a hf => ?_
  refine c_nt <| c_retc ?_
  obtain rfl := Option.some.inj hF
  refine c_ret hf (res_ttt Try.results155 hf rfl rfl rfl) ?_
  exact ⟨_, rfl, hw.below, rfl⟩
/-! f156 -/
noncomputable def spec_l01Form_l1 (a0 : Int) (a1 : Form) (a2 : Int) (s2 : Int) : Option (LR Int Bool) :=
  if (decide (s2 < 9)) = true then ((if 0 ≤ s2 ∧ s2 < 9 then (if (decide (a0 ≤ ((vg 0 a1 s2).toNat : Int))) = true then (some true) else (if (decide (a2 ≤ s2)) = true then (some (decide (((vg 0 a1 s2).toNat : Int) ≠ 0))) else (some false))) else none).bind fun (s5 : Bool) => if s5 = true then (some (.ret false)) else (some (.next (w64 (s2 + 1))))) else (some (.stop s2))
noncomputable def spec_l01Form (a0 : Int) (a1 : Form) (a2 : Int) : Option Bool :=
  (iter (fun s => spec_l01Form_l1 a0 a1 a2 s) 0).bind fun o => match o with | .stop s2 => (some (true)) | .ret r => some r | .next _ => none
theorem spec_l01Form_ok {w0 : World} {a0 : Int} {a1 : Form} {a2 : Int}   {r : Bool} (hF : spec_l01Form a0 a1 a2 = some r) :
    Calls Try.prog 156 [vI a0, .agg (cForm.enc a1).toArray, vI a2].toArray w0 fun e w => ∃ v, e = .returned v ∧ Below w0.heap.size w0 w ∧ .bool r = v := by
  refine calls_of (k := 29) Try.func156 rfl rfl (Nat.le_of_ble_eq_true rfl) fun a hf => ?_
  replace hf : Fr 29 a [(0, vI a0), (1, .agg (cForm.enc a1).toArray), (2, vI a2)] := hf
  refine c_start fun w ρ hw => ?_
  unfold spec_l01Form at hF
  refine c_seq <| c_region ?_
  refine sx_ hf (r_box (cs := cForm.enc a1) 1 hw hf rfl rfl) fun a v w hf hΦ => ?_
  obtain ⟨g1, ρ, rfl, hw, hE, o1⟩ := hΦ
  refine s_ hf (r_assign hf rfl) fun a hf => ?_
  refine c_nt <| c_seq <| c_seq <| c_region ?_
  refine s_ hf (r_assign hf rfl) fun a hf => ?_
  refine c_nt ?_
  obtain ⟨ol1, ho1, hG1⟩ := of_bind hF
  clear hF
  refine c_block (c_loop (id := 0) (fun s => spec_l01Form_l1 a0 a1 a2 s) (fun (s2 : Int) a w => ∃ ρ, Wd w0 ρ w ∧ Fr 29 a [(0, vI a0), (2, vI a2), (4, .pointer (some ((⟨g1, 0, none⟩ : Addr).add 0))), (7, vI s2)] ∧ Va ρ w 1 g1 80 (cForm.enc a1)) (fun (s2 : Int) a w => ∃ ρ, Wd w0 ρ w ∧ Fr 29 a []) ho1 ⟨_, hw, hf.sub ⟨rfl, rfl, rfl, rfl, trivial⟩, o1⟩ ?_ ?_)
  · rintro s2 lr a w ⟨ρ, hw, hf, o1⟩ hF
    replace hF : spec_l01Form_l1 a0 a1 a2 s2 = some lr := hF
    unfold spec_l01Form_l1 at hF
    refine c_seq <| c_seq <| c_region ?_
    refine s_ hf (r_move hf rfl) fun a hf => ?_
    refine s_ hf (r_lss hf rfl rfl) fun a hf => ?_
    refine c_nt ?_
    rcases of_ite hF with ⟨hb3, hF⟩ | ⟨hb3, hF⟩
    rotate_left
    · refine c_iff hf rfl hb3 <| c_exit <| x_then ?_
      obtain rfl := Option.some.inj hF
      exact Rnd.stops ⟨_, hw, hf.sub trivial⟩
    refine c_ift hf rfl hb3 <| c_skip <| n_then <| c_seq <| c_block <| c_seq ?_
    obtain ⟨s5, hT4, hG4⟩ := of_bind hF
    clear hF
    refine c_meet (fun (s5 : Bool) a w => ∃ ρ, Wd w0 ρ w ∧ Fr 29 a [(0, vI a0), (2, vI a2), (4, .pointer (some ((⟨g1, 0, none⟩ : Addr).add 0))), (7, vI s2), (28, .bool s5)] ∧ Va ρ w 1 g1 80 (cForm.enc a1)) s5 ?_ ?_
    · have hF := hT4
      refine c_region ?_
      refine s_ hf (r_move hf rfl) fun a hf => ?_
      obtain ⟨hc6, hF⟩ := of_guard hF
      refine s_ hf (r_indexAddr_arr Try.underlying80 sz5 hf rfl rfl hc6.1 hc6.2) fun a hf => ?_
      refine s_ hf (r_load_cell ty5 hf rfl (o1.cl.lens (Lens.vec 0 fU8 s2 hc6.1 hc6.2))) fun a hf => ?_
      refine s_ hf (r_conv_u8_i64 Try.underlying5 Try.underlying2 hf rfl) fun a hf => ?_
      refine s_ hf (r_move hf rfl) fun a hf => ?_
      refine s_ hf (r_geq hf rfl rfl) fun a hf => ?_
      refine s_ hf (r_move hf rfl) fun a hf => ?_
      rcases of_ite hF with ⟨hb7, hF⟩ | ⟨hb7, hF⟩
      · refine st_no (b := true) hf rfl rfl rfl hb7 rfl (by decide) fun a hf => ?_
        refine st_no (b := true) hf rfl rfl rfl hb7 rfl (by decide) fun a hf => ?_
        refine st_no (b := true) hf rfl rfl rfl hb7 rfl (by decide) fun a hf => ?_
        refine st_no (b := true) hf rfl rfl rfl hb7 rfl (by decide) fun a hf => ?_
        refine st_nu hf rfl rfl rfl rfl (by decide) fun a hf => ?_
        refine st_nu hf rfl rfl rfl rfl (by decide) fun a hf => ?_
        refine st_nu hf rfl rfl rfl rfl (by decide) fun a hf => ?_
        refine st_nu hf rfl rfl rfl rfl (by decide) fun a hf => ?_
        refine st_no (b := true) hf rfl rfl rfl hb7 rfl (by decide) fun a hf => ?_
        refine s_ hf (r_pick (b := true) hf rfl hb7 rfl) fun a hf => ?_
        refine c_nil ⟨rfl, ?_⟩
        obtain rfl := Option.some.inj hF
        exact ⟨_, hw, hf.sub ⟨rfl, rfl, rfl, rfl, rfl, trivial⟩, o1⟩
      refine st_g (b := false) hf rfl rfl rfl hb7 rfl (by decide) (r_move hf rfl) fun a hf => ?_
      refine st_g (b := false) hf rfl rfl rfl hb7 rfl (by decide) (r_move hf rfl) fun a hf => ?_
      refine st_g (b := false) hf rfl rfl rfl hb7 rfl (by decide) (r_geq hf rfl rfl) fun a hf => ?_
      refine st_g (b := false) hf rfl rfl rfl hb7 rfl (by decide) (r_move hf rfl) fun a hf => ?_
      rcases of_ite hF with ⟨hb8, hF⟩ | ⟨hb8, hF⟩
      rotate_left
      · refine st_no (b := false) hf rfl rfl rfl hb8 rfl (by decide) fun a hf => ?_
        refine st_no (b := false) hf rfl rfl rfl hb8 rfl (by decide) fun a hf => ?_
        refine st_no (b := false) hf rfl rfl rfl hb8 rfl (by decide) fun a hf => ?_
        refine st_no (b := false) hf rfl rfl rfl hb8 rfl (by decide) fun a hf => ?_
        refine st_g (b := false) hf rfl rfl rfl hb7 rfl (by decide) (r_pick (b := false) hf rfl hb8 rfl) fun a hf => ?_
        refine s_ hf (r_pick (b := false) hf rfl hb7 rfl) fun a hf => ?_
        refine c_nil ⟨rfl, ?_⟩
        obtain rfl := Option.some.inj hF
        exact ⟨_, hw, hf.sub ⟨rfl, rfl, rfl, rfl, rfl, trivial⟩, o1⟩
      refine st_g (b := true) hf rfl rfl rfl hb8 rfl (by decide) (r_move hf rfl) fun a hf => ?_
      refine st_g (b := true) hf rfl rfl rfl hb8 rfl (by decide) (r_indexAddr_arr Try.underlying80 sz5 hf rfl rfl hc6.1 hc6.2) fun a hf => ?_
      refine st_g (b := true) hf rfl rfl rfl hb8 rfl (by decide) (r_load_cell ty5 hf rfl (o1.cl.lens (Lens.vec 0 fU8 s2 hc6.1 hc6.2))) fun a hf => ?_
      refine st_g (b := true) hf rfl rfl rfl hb8 rfl (by decide) (r_neq hf rfl rfl) fun a hf => ?_
      refine st_g (b := false) hf rfl rfl rfl hb7 rfl (by decide) (r_pick (b := true) hf rfl hb8 rfl) fun a hf => ?_
      refine s_ hf (r_pick (b := false) hf rfl hb7 rfl) fun a hf => ?_
      refine c_nil ⟨rfl, ?_⟩
      obtain rfl := Option.some.inj hF
      exact ⟨_, hw, hf.sub ⟨rfl, rfl, rfl, rfl, rfl, trivial⟩, o1⟩
    rintro a w ⟨ρ, hw, hf, o1⟩
    have hF := hG4
    refine n_then ?_
    rcases of_ite hF with ⟨hb9, hF⟩ | ⟨hb9, hF⟩
    rotate_left
    · refine c_iff hf rfl hb9 <| c_skip <| n_block <| n_then <| c_region ?_
      refine s_ hf (r_move hf rfl) fun a hf => ?_
      refine s_ hf (r_add hf rfl rfl) fun a hf => ?_
      refine s_ hf (r_assign hf rfl) fun a hf => ?_
      refine c_nil ?_
      obtain rfl := Option.some.inj hF
      exact Rnd.goes ⟨_, hw, hf.sub ⟨rfl, rfl, rfl, rfl, trivial⟩, o1⟩
    refine c_ift hf rfl hb9 <| c_seq <| c_region ?_
    refine s_ hf (r_assign hf rfl) fun a hf => ?_
    refine c_nt <| c_retc ?_
    obtain rfl := Option.some.inj hF
    refine r_block <| r_then ?_
    refine Rnd.rets fun ho => ?_
    subst ho
    have hF := hG1
    dsimp only at hF
    obtain rfl := Option.some.inj hF
    refine r_block <| r_then <| c_ret hf (res_tmp Try.results156 hf rfl) ?_
    exact ⟨_, rfl, hw.below, rfl⟩
  rintro s2 a w hs ⟨ρ, hw, hf⟩
  subst hs
  have hF := hG1
  dsimp only at hF
  refine x_block <| n_then <| c_seq <| c_region ?_
  refine s_ hf (r_assign hf rfl) fun a hf => ?_
  refine c_nt <| c_retc ?_
  obtain rfl := Option.some.inj hF
  refine c_ret hf (res_tmp Try.results156 hf rfl) ?_
  exact ⟨_, rfl, hw.below, rfl⟩
/-! f157 -/
noncomputable def spec_l01Zero (a0 : Form) : Option Bool :=
  some (decide (a0 = zForm))
theorem spec_l01Zero_ok {w0 : World} {a0 : Form}   {r : Bool} (hF : spec_l01Zero a0 = some r) :
    Calls Try.prog 157 [.agg (cForm.enc a0).toArray].toArray w0 fun e w => ∃ v, e = .returned v ∧ Below w0.heap.size w0 w ∧ .bool r = v := by
  refine calls_of (k := 6) Try.func157 rfl rfl (Nat.le_of_ble_eq_true rfl) fun a hf => ?_
  replace hf : Fr 6 a [(0, .agg (cForm.enc a0).toArray)] := hf
  refine c_start fun w ρ hw => ?_
  unfold spec_l01Zero at hF
  refine c_seq <| c_region ?_
  refine sx_ hf (r_box (cs := cForm.enc a0) 1 hw hf rfl rfl) fun a v w hf hΦ => ?_
  obtain ⟨g1, ρ, rfl, hw, hE, o1⟩ := hΦ
  refine s_ hf (r_assign hf rfl) fun a hf => ?_
  refine c_nt <| c_seq <| c_region ?_
  refine s_ hf (r_load_agg ty80 hf rfl o1.cl (cForm.len _)) fun a hf => ?_
  refine s_ hf (r_build_arr (vs := []) (res := (cForm.enc zForm).toArray) Try.underlying80 sz5 ze80 hf rfl rfl rfl) fun a hf => ?_
  refine s_ hf (r_eq (d := cForm) eq80 ⟨_, rfl⟩ gt80 hf rfl rfl) fun a hf => ?_
  refine s_ hf (r_assign hf rfl) fun a hf => ?_
  refine c_nt <| c_retc ?_
  obtain rfl := Option.some.inj hF
  refine c_ret hf (res_tmp Try.results157 hf rfl) ?_
  exact ⟨_, rfl, hw.below, rfl⟩
/-! f125 -/
noncomputable def spec_l01Product (a0 : Sch) (a1 : Prod) : Option Bool :=
  (spec_l01Lengths a0).bind fun x1 => ((spec_l01Form a0.p a1.1 x1.1).bind fun x5 => if (!x5) = true then (some true) else ((spec_l01Form a0.p a1.2.1 x1.2.1).bind fun x8 => if (!x8) = true then (some true) else ((spec_l01Form a0.p a1.2.2 x1.2.2).bind fun x11 => some (!x11)))).bind fun (s4 : Bool) => if s4 = true then (some (false)) else (((spec_l01Zero a1.1).bind fun x16 => if (!x16) = true then ((spec_l01Zero a1.2.1).bind fun x19 => if (!x19) = true then ((spec_l01Zero a1.2.2).bind fun x22 => some (!x22)) else (some false)) else (some false)).bind fun (s15 : Bool) => some (s15))
theorem spec_l01Product_ok {w0 : World} {a0 : Sch} {a1 : Prod} {va0 : Value} (h0 : Ro (kf cProd) w0 va0 a0.ps) {r : Bool} (hF : spec_l01Product a0 a1 = some r) :
    Calls Try.prog 125 [.agg ([vI a0.p, vI a0.n, vI a0.m, vI a0.k, va0]).toArray, .agg (cProd.enc a1).toArray].toArray w0 fun e w => ∃ v, e = .returned v ∧ Below w0.heap.size w0 w ∧ .bool r = v := by
  refine calls_of (k := 55) Try.func125 rfl rfl (Nat.le_of_ble_eq_true rfl) fun a hf => ?_
  replace hf : Fr 55 a [(0, .agg ([vI a0.p, vI a0.n, vI a0.m, vI a0.k, va0]).toArray), (1, .agg (cProd.enc a1).toArray)] := hf
  refine c_start fun w ρ hw => ?_
  unfold spec_l01Product at hF
  refine c_seq <| c_region ?_
  refine sx_ hf (r_box (cs := [vI a0.p, vI a0.n, vI a0.m, vI a0.k, va0]) 1 hw hf rfl rfl) fun a v w hf hΦ => ?_
  obtain ⟨g1, ρ, rfl, hw, hE, o1⟩ := hΦ
  refine sx_ hf (r_box (cs := cProd.enc a1) 2 hw hf rfl rfl) fun a v w hf hΦ => ?_
  obtain ⟨g2, ρ, rfl, hw, hE, o2⟩ := hΦ
  replace o1 := o1.ext hE
  refine s_ hf (r_assign hf rfl) fun a hf => ?_
  refine c_nt <| c_seq <| c_region ?_
  refine s_ hf (r_load_agg ty39 hf rfl o1.cl rfl) fun a hf => ?_
  obtain ⟨x1, hx2, hF⟩ := of_bind hF
  refine st_fn 3 hw hf rfl rfl (by decide) (r_fn en155 hf rfl) (spec_l01Lengths_ok (a0 := a0) (h0.now hw) hx2) fun a v w ρ hf hw hE hN hΦ => ?_
  obtain rfl := hΦ
  replace o1 := o1.ext hE
  replace o2 := o2.ext hE
  refine s_ hf (r_move hf rfl) fun a hf => ?_
  refine s_ hf (r_extract hf rfl rfl) fun a hf => ?_
  refine s_ hf (r_extract hf rfl rfl) fun a hf => ?_
  refine s_ hf (r_extract hf rfl rfl) fun a hf => ?_
  refine s_ hf (r_assign hf rfl) fun a hf => ?_
  refine s_ hf (r_assign hf rfl) fun a hf => ?_
  refine s_ hf (r_assign hf rfl) fun a hf => ?_
  refine c_nt <| c_seq <| c_seq ?_
  obtain ⟨s4, hT3, hG3⟩ := of_bind hF
  clear hF
  refine c_meet (fun (s4 : Bool) a w => ∃ ρ, Wd w0 ρ w ∧ Fr 55 a [(3, .pointer (some ((⟨g2, 0, none⟩ : Addr).add 0))), (38, .bool s4)] ∧ Va ρ w 2 g2 82 (cProd.enc a1)) s4 ?_ ?_
  · have hF := hT3
    refine c_region ?_
    refine s_ hf (r_fa fa39_0 hf rfl) fun a hf => ?_
    refine s_ hf (r_load_cell ty2 hf rfl (o1.cl.at_ 0 _ rfl)) fun a hf => ?_
    refine s_ hf (r_fa fa82_0 hf rfl) fun a hf => ?_
    refine s_ hf (r_load_agg ty80 hf rfl (o2.cl.lens lProd_0) (cForm.len _)) fun a hf => ?_
    refine s_ hf (r_move hf rfl) fun a hf => ?_
    obtain ⟨x5, hx6, hF⟩ := of_bind hF
    refine st_fn 4 hw hf rfl rfl (by decide) (r_fn en156 hf rfl) (spec_l01Form_ok  hx6) fun a v w ρ hf hw hE hN hΦ => ?_
    obtain rfl := hΦ
    replace o1 := o1.ext hE
    replace o2 := o2.ext hE
    refine s_ hf (r_not hf rfl) fun a hf => ?_
    refine s_ hf (r_move hf rfl) fun a hf => ?_
    rcases of_ite hF with ⟨hb7, hF⟩ | ⟨hb7, hF⟩
    · refine st_no (b := true) hf rfl rfl rfl hb7 rfl (by decide) fun a hf => ?_
      refine st_no (b := true) hf rfl rfl rfl hb7 rfl (by decide) fun a hf => ?_
      refine st_no (b := true) hf rfl rfl rfl hb7 rfl (by decide) fun a hf => ?_
      refine st_no (b := true) hf rfl rfl rfl hb7 rfl (by decide) fun a hf => ?_
      refine st_no (b := true) hf rfl rfl rfl hb7 rfl (by decide) fun a hf => ?_
      refine st_no (b := true) hf rfl rfl rfl hb7 rfl (by decide) fun a hf => ?_
      refine st_no (b := true) hf rfl rfl rfl hb7 rfl (by decide) fun a hf => ?_
      refine s_ hf (r_pick (b := true) hf rfl hb7 rfl) fun a hf => ?_
      refine s_ hf (r_move hf rfl) fun a hf => ?_
      refine st_no (b := true) hf rfl rfl rfl rfl rfl (by decide) fun a hf => ?_
      refine st_no (b := true) hf rfl rfl rfl rfl rfl (by decide) fun a hf => ?_
      refine st_no (b := true) hf rfl rfl rfl rfl rfl (by decide) fun a hf => ?_
      refine st_no (b := true) hf rfl rfl rfl rfl rfl (by decide) fun a hf => ?_
      refine st_no (b := true) hf rfl rfl rfl rfl rfl (by decide) fun a hf => ?_
      refine st_no (b := true) hf rfl rfl rfl rfl rfl (by decide) fun a hf => ?_
      refine st_no (b := true) hf rfl rfl rfl rfl rfl (by decide) fun a hf => ?_
      refine s_ hf (r_pick (b := true) hf rfl rfl rfl) fun a hf => ?_
      refine c_nil ⟨rfl, ?_⟩
      obtain rfl := Option.some.inj hF
      exact ⟨_, hw, hf.sub ⟨rfl, rfl, trivial⟩, o2⟩
    refine st_g (b := false) hf rfl rfl rfl hb7 rfl (by decide) (r_fa fa39_0 hf rfl) fun a hf => ?_
    refine st_g (b := false) hf rfl rfl rfl hb7 rfl (by decide) (r_load_cell ty2 hf rfl (o1.cl.at_ 0 _ rfl)) fun a hf => ?_
    refine st_g (b := false) hf rfl rfl rfl hb7 rfl (by decide) (r_fa fa82_1 hf rfl) fun a hf => ?_
    refine st_g (b := false) hf rfl rfl rfl hb7 rfl (by decide) (r_load_agg ty80 hf rfl (o2.cl.lens lProd_1) (cForm.len _)) fun a hf => ?_
    refine st_g (b := false) hf rfl rfl rfl hb7 rfl (by decide) (r_move hf rfl) fun a hf => ?_
    obtain ⟨x8, hx9, hF⟩ := of_bind hF
    refine st_gfn (b := false) 5 hw hf rfl rfl rfl hb7 rfl (by decide) (r_fn en156 hf rfl) (spec_l01Form_ok  hx9) fun a v w ρ hf hw hE hN hΦ => ?_
    obtain rfl := hΦ
    replace o1 := o1.ext hE
    replace o2 := o2.ext hE
    refine st_g (b := false) hf rfl rfl rfl hb7 rfl (by decide) (r_not hf rfl) fun a hf => ?_
    refine s_ hf (r_pick (b := false) hf rfl hb7 rfl) fun a hf => ?_
    refine s_ hf (r_move hf rfl) fun a hf => ?_
    rcases of_ite hF with ⟨hb10, hF⟩ | ⟨hb10, hF⟩
    · refine st_no (b := true) hf rfl rfl rfl hb10 rfl (by decide) fun a hf => ?_
      refine st_no (b := true) hf rfl rfl rfl hb10 rfl (by decide) fun a hf => ?_
      refine st_no (b := true) hf rfl rfl rfl hb10 rfl (by decide) fun a hf => ?_
      refine st_no (b := true) hf rfl rfl rfl hb10 rfl (by decide) fun a hf => ?_
      refine st_no (b := true) hf rfl rfl rfl hb10 rfl (by decide) fun a hf => ?_
      refine st_no (b := true) hf rfl rfl rfl hb10 rfl (by decide) fun a hf => ?_
      refine st_no (b := true) hf rfl rfl rfl hb10 rfl (by decide) fun a hf => ?_
      refine s_ hf (r_pick (b := true) hf rfl hb10 rfl) fun a hf => ?_
      refine c_nil ⟨rfl, ?_⟩
      obtain rfl := Option.some.inj hF
      exact ⟨_, hw, hf.sub ⟨rfl, rfl, trivial⟩, o2⟩
    refine st_g (b := false) hf rfl rfl rfl hb10 rfl (by decide) (r_fa fa39_0 hf rfl) fun a hf => ?_
    refine st_g (b := false) hf rfl rfl rfl hb10 rfl (by decide) (r_load_cell ty2 hf rfl (o1.cl.at_ 0 _ rfl)) fun a hf => ?_
    refine st_g (b := false) hf rfl rfl rfl hb10 rfl (by decide) (r_fa fa82_2 hf rfl) fun a hf => ?_
    refine st_g (b := false) hf rfl rfl rfl hb10 rfl (by decide) (r_load_agg ty80 hf rfl (o2.cl.lens lProd_2) (cForm.len _)) fun a hf => ?_
    refine st_g (b := false) hf rfl rfl rfl hb10 rfl (by decide) (r_move hf rfl) fun a hf => ?_
    obtain ⟨x11, hx12, hF⟩ := of_bind hF
    refine st_gfn (b := false) 6 hw hf rfl rfl rfl hb10 rfl (by decide) (r_fn en156 hf rfl) (spec_l01Form_ok  hx12) fun a v w ρ hf hw hE hN hΦ => ?_
    obtain rfl := hΦ
    replace o1 := o1.ext hE
    replace o2 := o2.ext hE
    refine st_g (b := false) hf rfl rfl rfl hb10 rfl (by decide) (r_not hf rfl) fun a hf => ?_
    refine s_ hf (r_pick (b := false) hf rfl hb10 rfl) fun a hf => ?_
    refine c_nil ⟨rfl, ?_⟩
    obtain rfl := Option.some.inj hF
    exact ⟨_, hw, hf.sub ⟨rfl, rfl, trivial⟩, o2⟩
  rintro a w ⟨ρ, hw, hf, o2⟩
  have hF := hG3
  refine n_then ?_
  rcases of_ite hF with ⟨hb13, hF⟩ | ⟨hb13, hF⟩
  · refine c_ift hf rfl hb13 <| c_seq <| c_region ?_
    refine s_ hf (r_assign hf rfl) fun a hf => ?_
    refine c_nt <| c_retc ?_
    obtain rfl := Option.some.inj hF
    refine r_then <| c_ret hf (res_tmp Try.results125 hf rfl) ?_
    exact ⟨_, rfl, hw.below, rfl⟩
  refine c_iff hf rfl hb13 <| c_skip <| n_then <| c_seq ?_
  obtain ⟨s15, hT14, hG14⟩ := of_bind hF
  clear hF
  refine c_meet (fun (s15 : Bool) a w => ∃ ρ, Wd w0 ρ w ∧ Fr 55 a [(4, .bool s15)]) s15 ?_ ?_
  · have hF := hT14
    refine c_region ?_
    refine s_ hf (r_fa fa82_0 hf rfl) fun a hf => ?_
    refine s_ hf (r_load_agg ty80 hf rfl (o2.cl.lens lProd_0) (cForm.len _)) fun a hf => ?_
    obtain ⟨x16, hx17, hF⟩ := of_bind hF
    refine st_fn 7 hw hf rfl rfl (by decide) (r_fn en157 hf rfl) (spec_l01Zero_ok  hx17) fun a v w ρ hf hw hE hN hΦ => ?_
    obtain rfl := hΦ
    replace o2 := o2.ext hE
    refine s_ hf (r_not hf rfl) fun a hf => ?_
    refine s_ hf (r_move hf rfl) fun a hf => ?_
    rcases of_ite hF with ⟨hb18, hF⟩ | ⟨hb18, hF⟩
    rotate_left
    · refine st_no (b := false) hf rfl rfl rfl hb18 rfl (by decide) fun a hf => ?_
      refine st_no (b := false) hf rfl rfl rfl hb18 rfl (by decide) fun a hf => ?_
      refine st_no (b := false) hf rfl rfl rfl hb18 rfl (by decide) fun a hf => ?_
      refine st_no (b := false) hf rfl rfl rfl hb18 rfl (by decide) fun a hf => ?_
      refine s_ hf (r_pick (b := false) hf rfl hb18 rfl) fun a hf => ?_
      refine s_ hf (r_move hf rfl) fun a hf => ?_
      refine st_no (b := false) hf rfl rfl rfl rfl rfl (by decide) fun a hf => ?_
      refine st_no (b := false) hf rfl rfl rfl rfl rfl (by decide) fun a hf => ?_
      refine st_no (b := false) hf rfl rfl rfl rfl rfl (by decide) fun a hf => ?_
      refine st_no (b := false) hf rfl rfl rfl rfl rfl (by decide) fun a hf => ?_
      refine s_ hf (r_pick (b := false) hf rfl rfl rfl) fun a hf => ?_
      refine s_ hf (r_assign hf rfl) fun a hf => ?_
      refine c_nil ⟨rfl, ?_⟩
      obtain rfl := Option.some.inj hF
      exact ⟨_, hw, hf.sub ⟨rfl, trivial⟩⟩
    refine st_g (b := true) hf rfl rfl rfl hb18 rfl (by decide) (r_fa fa82_1 hf rfl) fun a hf => ?_
    refine st_g (b := true) hf rfl rfl rfl hb18 rfl (by decide) (r_load_agg ty80 hf rfl (o2.cl.lens lProd_1) (cForm.len _)) fun a hf => ?_
    obtain ⟨x19, hx20, hF⟩ := of_bind hF
    refine st_gfn (b := true) 8 hw hf rfl rfl rfl hb18 rfl (by decide) (r_fn en157 hf rfl) (spec_l01Zero_ok  hx20) fun a v w ρ hf hw hE hN hΦ => ?_
    obtain rfl := hΦ
    replace o2 := o2.ext hE
    refine st_g (b := true) hf rfl rfl rfl hb18 rfl (by decide) (r_not hf rfl) fun a hf => ?_
    refine s_ hf (r_pick (b := true) hf rfl hb18 rfl) fun a hf => ?_
    refine s_ hf (r_move hf rfl) fun a hf => ?_
    rcases of_ite hF with ⟨hb21, hF⟩ | ⟨hb21, hF⟩
    rotate_left
    · refine st_no (b := false) hf rfl rfl rfl hb21 rfl (by decide) fun a hf => ?_
      refine st_no (b := false) hf rfl rfl rfl hb21 rfl (by decide) fun a hf => ?_
      refine st_no (b := false) hf rfl rfl rfl hb21 rfl (by decide) fun a hf => ?_
      refine st_no (b := false) hf rfl rfl rfl hb21 rfl (by decide) fun a hf => ?_
      refine s_ hf (r_pick (b := false) hf rfl hb21 rfl) fun a hf => ?_
      refine s_ hf (r_assign hf rfl) fun a hf => ?_
      refine c_nil ⟨rfl, ?_⟩
      obtain rfl := Option.some.inj hF
      exact ⟨_, hw, hf.sub ⟨rfl, trivial⟩⟩
    refine st_g (b := true) hf rfl rfl rfl hb21 rfl (by decide) (r_fa fa82_2 hf rfl) fun a hf => ?_
    refine st_g (b := true) hf rfl rfl rfl hb21 rfl (by decide) (r_load_agg ty80 hf rfl (o2.cl.lens lProd_2) (cForm.len _)) fun a hf => ?_
    obtain ⟨x22, hx23, hF⟩ := of_bind hF
    refine st_gfn (b := true) 9 hw hf rfl rfl rfl hb21 rfl (by decide) (r_fn en157 hf rfl) (spec_l01Zero_ok  hx23) fun a v w ρ hf hw hE hN hΦ => ?_
    obtain rfl := hΦ
    replace o2 := o2.ext hE
    refine st_g (b := true) hf rfl rfl rfl hb21 rfl (by decide) (r_not hf rfl) fun a hf => ?_
    refine s_ hf (r_pick (b := true) hf rfl hb21 rfl) fun a hf => ?_
    refine s_ hf (r_assign hf rfl) fun a hf => ?_
    refine c_nil ⟨rfl, ?_⟩
    obtain rfl := Option.some.inj hF
    exact ⟨_, hw, hf.sub ⟨rfl, trivial⟩⟩
  rintro a w ⟨ρ, hw, hf⟩
  have hF := hG14
  refine n_then <| c_retc ?_
  obtain rfl := Option.some.inj hF
  refine c_ret hf (res_tmp Try.results125 hf rfl) ?_
  exact ⟨_, rfl, hw.below, rfl⟩
/-! f77 -/
noncomputable def spec_l01Is_l7 (a0 : Sch) (s8 : Int) : Option (LR Int Bool) :=
  if (decide (s8 < (a0.ps.length : Int))) = true then (if 0 ≤ s8 ∧ s8 < (a0.ps.length : Int) then ((spec_l01Product a0 (gl zProd a0.ps s8)).bind fun x12 => if (!x12) = true then (some (.ret false)) else (some (.next (w64 (s8 + 1))))) else none) else (some (.stop s8))
noncomputable def spec_l01Is (a0 : Sch) : Option Bool :=
  ((spec_l01Sizes a0.p a0.n a0.m a0.k).bind fun x3 => if (!x3) = true then (some true) else (some (decide (30 < (a0.ps.length : Int))))).bind fun (s2 : Bool) => if s2 = true then (some (false)) else ((iter (fun s => spec_l01Is_l7 a0 s) 0).bind fun o => match o with | .stop s8 => (some (true)) | .ret r => some r | .next _ => none)
theorem spec_l01Is_ok {w0 : World} {a0 : Sch} {va0 : Value} (h0 : Ro (kf cProd) w0 va0 a0.ps) {r : Bool} (hF : spec_l01Is a0 = some r) :
    Calls Try.prog 77 [.agg ([vI a0.p, vI a0.n, vI a0.m, vI a0.k, va0]).toArray].toArray w0 fun e w => ∃ v, e = .returned v ∧ Below w0.heap.size w0 w ∧ .bool r = v := by
  refine calls_of (k := 35) Try.func77 rfl rfl (Nat.le_of_ble_eq_true rfl) fun a hf => ?_
  replace hf : Fr 35 a [(0, .agg ([vI a0.p, vI a0.n, vI a0.m, vI a0.k, va0]).toArray)] := hf
  refine c_start fun w ρ hw => ?_
  unfold spec_l01Is at hF
  refine c_seq <| c_region ?_
  refine sx_ hf (r_box (cs := [vI a0.p, vI a0.n, vI a0.m, vI a0.k, va0]) 1 hw hf rfl rfl) fun a v w hf hΦ => ?_
  obtain ⟨g1, ρ, rfl, hw, hE, o1⟩ := hΦ
  refine s_ hf (r_assign hf rfl) fun a hf => ?_
  refine c_nt <| c_seq <| c_seq ?_
  obtain ⟨s2, hT1, hG1⟩ := of_bind hF
  clear hF
  refine c_meet (fun (s2 : Bool) a w => ∃ ρ, Wd w0 ρ w ∧ Fr 35 a [(1, .pointer (some ((⟨g1, 0, none⟩ : Addr).add 0))), (19, .bool s2)] ∧ Va ρ w 1 g1 39 ([vI a0.p, vI a0.n, vI a0.m, vI a0.k, va0])) s2 ?_ ?_
  · have hF := hT1
    refine c_region ?_
    refine s_ hf (r_fa fa39_0 hf rfl) fun a hf => ?_
    refine s_ hf (r_load_cell ty2 hf rfl (o1.cl.at_ 0 _ rfl)) fun a hf => ?_
    refine s_ hf (r_fa fa39_1 hf rfl) fun a hf => ?_
    refine s_ hf (r_load_cell ty2 hf rfl (o1.cl.at_ 1 _ rfl)) fun a hf => ?_
    refine s_ hf (r_fa fa39_2 hf rfl) fun a hf => ?_
    refine s_ hf (r_load_cell ty2 hf rfl (o1.cl.at_ 2 _ rfl)) fun a hf => ?_
    refine s_ hf (r_fa fa39_3 hf rfl) fun a hf => ?_
    refine s_ hf (r_load_cell ty2 hf rfl (o1.cl.at_ 3 _ rfl)) fun a hf => ?_
    obtain ⟨x3, hx4, hF⟩ := of_bind hF
    refine st_fn 2 hw hf rfl rfl (by decide) (r_fn en124 hf rfl) (spec_l01Sizes_ok  hx4) fun a v w ρ hf hw hE hN hΦ => ?_
    obtain rfl := hΦ
    replace o1 := o1.ext hE
    refine s_ hf (r_not hf rfl) fun a hf => ?_
    refine s_ hf (r_move hf rfl) fun a hf => ?_
    rcases of_ite hF with ⟨hb5, hF⟩ | ⟨hb5, hF⟩
    · refine st_no (b := true) hf rfl rfl rfl hb5 rfl (by decide) fun a hf => ?_
      refine st_no (b := true) hf rfl rfl rfl hb5 rfl (by decide) fun a hf => ?_
      refine st_no (b := true) hf rfl rfl rfl hb5 rfl (by decide) fun a hf => ?_
      refine st_no (b := true) hf rfl rfl rfl hb5 rfl (by decide) fun a hf => ?_
      refine s_ hf (r_pick (b := true) hf rfl hb5 rfl) fun a hf => ?_
      refine c_nil ⟨rfl, ?_⟩
      obtain rfl := Option.some.inj hF
      exact ⟨_, hw, hf.sub ⟨rfl, rfl, trivial⟩, o1⟩
    refine st_g (b := false) hf rfl rfl rfl hb5 rfl (by decide) (r_fa fa39_4 hf rfl) fun a hf => ?_
    refine st_g (b := false) hf rfl rfl rfl hb5 rfl (by decide) (r_load_cell ty37 hf rfl (o1.cl.at_ 4 _ rfl)) fun a hf => ?_
    refine st_g (b := false) hf rfl rfl rfl hb5 rfl (by decide) (r_len Try.underlying37 (h0.now hw) hf rfl) fun a hf => ?_
    refine st_g (b := false) hf rfl rfl rfl hb5 rfl (by decide) (r_gtr hf rfl rfl) fun a hf => ?_
    refine s_ hf (r_pick (b := false) hf rfl hb5 rfl) fun a hf => ?_
    refine c_nil ⟨rfl, ?_⟩
    obtain rfl := Option.some.inj hF
    exact ⟨_, hw, hf.sub ⟨rfl, rfl, trivial⟩, o1⟩
  rintro a w ⟨ρ, hw, hf, o1⟩
  have hF := hG1
  refine n_then ?_
  rcases of_ite hF with ⟨hb6, hF⟩ | ⟨hb6, hF⟩
  · refine c_ift hf rfl hb6 <| c_seq <| c_region ?_
    refine s_ hf (r_assign hf rfl) fun a hf => ?_
    refine c_nt <| c_retc ?_
    obtain rfl := Option.some.inj hF
    refine r_then <| c_ret hf (res_tmp Try.results77 hf rfl) ?_
    exact ⟨_, rfl, hw.below, rfl⟩
  refine c_iff hf rfl hb6 <| c_skip <| n_then <| c_seq <| c_seq <| c_region ?_
  refine s_ hf (r_assign hf rfl) fun a hf => ?_
  refine c_nt ?_
  obtain ⟨ol7, ho7, hG7⟩ := of_bind hF
  clear hF
  refine c_block (c_loop (id := 0) (fun s => spec_l01Is_l7 a0 s) (fun (s8 : Int) a w => ∃ ρ, Wd w0 ρ w ∧ Fr 35 a [(1, .pointer (some ((⟨g1, 0, none⟩ : Addr).add 0))), (3, vI s8)] ∧ Va ρ w 1 g1 39 ([vI a0.p, vI a0.n, vI a0.m, vI a0.k, va0])) (fun (s8 : Int) a w => ∃ ρ, Wd w0 ρ w ∧ Fr 35 a []) ho7 ⟨_, hw, hf.sub ⟨rfl, rfl, trivial⟩, o1⟩ ?_ ?_)
  · rintro s8 lr a w ⟨ρ, hw, hf, o1⟩ hF
    replace hF : spec_l01Is_l7 a0 s8 = some lr := hF
    unfold spec_l01Is_l7 at hF
    refine c_seq <| c_seq <| c_region ?_
    refine s_ hf (r_move hf rfl) fun a hf => ?_
    refine s_ hf (r_fa fa39_4 hf rfl) fun a hf => ?_
    refine s_ hf (r_load_cell ty37 hf rfl (o1.cl.at_ 4 _ rfl)) fun a hf => ?_
    refine s_ hf (r_len Try.underlying37 (h0.now hw) hf rfl) fun a hf => ?_
    refine s_ hf (r_lss hf rfl rfl) fun a hf => ?_
    refine c_nt ?_
    rcases of_ite hF with ⟨hb9, hF⟩ | ⟨hb9, hF⟩
    rotate_left
    · refine c_iff hf rfl hb9 <| c_exit <| x_then ?_
      obtain rfl := Option.some.inj hF
      exact Rnd.stops ⟨_, hw, hf.sub trivial⟩
    refine c_ift hf rfl hb9 <| c_skip <| n_then <| c_seq <| c_block <| c_seq ?_
    obtain ⟨hc10, hF⟩ := of_guard hF
    obtain ⟨ad11, c11, he11, hl11⟩ := Ro.el cProd h0 zProd hc10.1 hc10.2
    replace hf : Fr 35 a [(1, .pointer (some ((⟨g1, 0, none⟩ : Addr).add 0))), (3, vI s8)] := hf.sub ⟨rfl, rfl, trivial⟩
    refine c_drawL (h := 6) mixed (by kernel_rfl) (by kernel_rfl) (fun ρ w => Va ρ w 1 g1 39 ([vI a0.p, vI a0.n, vI a0.m, vI a0.k, va0])) ?_ [fun ρ w v => .agg ([vI a0.p, vI a0.n, vI a0.m, vI a0.k, va0]).toArray = v, fun ρ w v => .pointer (some ((⟨g1, 0, none⟩ : Addr).add (0 + 4))) = v, fun ρ w v => va0 = v, fun ρ w v => vI s8 = v, fun ρ w v => .pointer (some (ad11.add (s8.toNat * 27))) = v, fun ρ w v => .agg (cProd.enc (gl zProd a0.ps s8)).toArray = v] ?_ hw o1 hf ?_ ?_
    · intro ρ w ρ' w' hE hG
      have o1 : Va ρ w 1 g1 39 ([vI a0.p, vI a0.n, vI a0.m, vI a0.k, va0]) := hG
      exact o1.ext hE
    · exact LastsL.cons (fun _ _ _ _ _ _ h => h) <| LastsL.cons (fun _ _ _ _ _ _ h => h) <| LastsL.cons (fun _ _ _ _ _ _ h => h) <| LastsL.cons (fun _ _ _ _ _ _ h => h) <| LastsL.cons (fun _ _ _ _ _ _ h => h) <| LastsL.cons (fun _ _ _ _ _ _ h => h) <| LastsL.nil
    · refine StepsB.cons ?_ <| StepsB.cons ?_ <| StepsB.cons ?_ <| StepsB.cons ?_ <| StepsB.cons ?_ <| StepsB.cons ?_ <| StepsB.nil
      · intro ρ w a hw hG hf hd K hK
        have o1 : Va ρ w 1 g1 39 ([vI a0.p, vI a0.n, vI a0.m, vI a0.k, va0]) := hG
        exact dv_ hK hw (wn rfl) (r_load_agg ty39 hf rfl o1.cl rfl) rfl
      · intro ρ w a hw hG hf hd K hK
        have o1 : Va ρ w 1 g1 39 ([vI a0.p, vI a0.n, vI a0.m, vI a0.k, va0]) := hG
        exact dv_ hK hw (wn rfl) (r_fa fa39_4 hf rfl) rfl
      · intro ρ w a hw hG hf hd K hK
        have o1 : Va ρ w 1 g1 39 ([vI a0.p, vI a0.n, vI a0.m, vI a0.k, va0]) := hG
        obtain ⟨_, hf, rfl⟩ := got (hd 1 (by kernel_rfl)) hf
        exact dv_ hK hw (wn rfl) (r_load_cell ty37 hf rfl (o1.cl.at_ 4 _ rfl)) rfl
      · intro ρ w a hw hG hf hd K hK
        have o1 : Va ρ w 1 g1 39 ([vI a0.p, vI a0.n, vI a0.m, vI a0.k, va0]) := hG
        exact dv_ hK hw (wn rfl) (r_move hf rfl) rfl
      · intro ρ w a hw hG hf hd K hK
        have o1 : Va ρ w 1 g1 39 ([vI a0.p, vI a0.n, vI a0.m, vI a0.k, va0]) := hG
        obtain ⟨_, hf, rfl⟩ := got (hd 2 (by kernel_rfl)) hf
        obtain ⟨_, hf, rfl⟩ := got (hd 3 (by kernel_rfl)) hf
        exact dv_ hK hw (wn rfl) (r_idx Try.underlying37 sz82 hf rfl ⟨_, he11⟩ rfl hc10.1 hc10.2) rfl
      · intro ρ w a hw hG hf hd K hK
        have o1 : Va ρ w 1 g1 39 ([vI a0.p, vI a0.n, vI a0.m, vI a0.k, va0]) := hG
        obtain ⟨_, hf, rfl⟩ := got (hd 4 (by kernel_rfl)) hf
        exact dv_ hK hw (wn rfl) (r_load_agg ty82 hf rfl (hl11.below hw.below) (cProd.len _)) rfl
    intro ρ w a hw hG hf hd
    have o1 : Va ρ w 1 g1 39 ([vI a0.p, vI a0.n, vI a0.m, vI a0.k, va0]) := hG
    obtain ⟨_, hf, rfl⟩ := got (hd 0 (by decide)) hf
    obtain ⟨_, hf, rfl⟩ := got (hd 5 (by decide)) hf
    obtain ⟨x12, hx13, hF⟩ := of_bind hF
    refine st_fn 3 hw hf rfl rfl (by decide) (r_fn en125 hf rfl) (spec_l01Product_ok (a0 := a0) (h0.now hw) hx13) fun a v w ρ hf hw hE hN hΦ => ?_
    obtain rfl := hΦ
    replace o1 := o1.ext hE
    refine s_ hf (r_not hf rfl) fun a hf => ?_
    refine c_nt ?_
    rcases of_ite hF with ⟨hb14, hF⟩ | ⟨hb14, hF⟩
    rotate_left
    · refine c_iff hf rfl hb14 <| c_skip <| n_block <| n_then <| c_region ?_
      refine s_ hf (r_move hf rfl) fun a hf => ?_
      refine s_ hf (r_add hf rfl rfl) fun a hf => ?_
      refine s_ hf (r_assign hf rfl) fun a hf => ?_
      refine c_nil ?_
      obtain rfl := Option.some.inj hF
      exact Rnd.goes ⟨_, hw, hf.sub ⟨rfl, rfl, trivial⟩, o1⟩
    refine c_ift hf rfl hb14 <| c_seq <| c_region ?_
    refine s_ hf (r_assign hf rfl) fun a hf => ?_
    refine c_nt <| c_retc ?_
    obtain rfl := Option.some.inj hF
    refine r_block <| r_then ?_
    refine Rnd.rets fun ho => ?_
    subst ho
    have hF := hG7
    dsimp only at hF
    obtain rfl := Option.some.inj hF
    refine r_block <| r_then <| c_ret hf (res_tmp Try.results77 hf rfl) ?_
    exact ⟨_, rfl, hw.below, rfl⟩
  rintro s8 a w hs ⟨ρ, hw, hf⟩
  subst hs
  have hF := hG7
  dsimp only at hF
  refine x_block <| n_then <| c_seq <| c_region ?_
  refine s_ hf (r_assign hf rfl) fun a hf => ?_
  refine c_nt <| c_retc ?_
  obtain rfl := Option.some.inj hF
  refine c_ret hf (res_tmp Try.results77 hf rfl) ?_
  exact ⟨_, rfl, hw.below, rfl⟩
/-! f161 -/
noncomputable def impl_factors (a0 : Prod) : Option Forms :=
  some ((#v[a0.1, a0.2.1, a0.2.2] : Forms))
theorem impl_factors_ok {w0 : World} {a0 : Prod}   {r : Forms} (hF : impl_factors a0 = some r) :
    Calls Try.prog 161 [.agg (cProd.enc a0).toArray].toArray w0 fun e w => ∃ v, e = .returned v ∧ Below w0.heap.size w0 w ∧ .agg (cForms.enc r).toArray = v := by
  refine calls_of (k := 10) Try.func161 rfl rfl (Nat.le_of_ble_eq_true rfl) fun a hf => ?_
  replace hf : Fr 10 a [(0, .agg (cProd.enc a0).toArray)] := hf
  refine c_start fun w ρ hw => ?_
  unfold impl_factors at hF
  refine c_seq <| c_region ?_
  refine sx_ hf (r_box (cs := cProd.enc a0) 1 hw hf rfl rfl) fun a v w hf hΦ => ?_
  obtain ⟨g1, ρ, rfl, hw, hE, o1⟩ := hΦ
  refine sx_ hf (r_alloc (cs := cForms.enc zForms) 2 ze154 rfl hw) fun a v w hf hΦ => ?_
  obtain ⟨g2, ρ, rfl, hw, hE, o2⟩ := hΦ
  replace o1 := o1.ext hE
  refine c_nt <| c_seq <| c_region ?_
  refine s_ hf (r_fa fa82_0 hf rfl) fun a hf => ?_
  refine s_ hf (r_load_agg ty80 hf rfl (o1.cl.lens lProd_0) (cForm.len _)) fun a hf => ?_
  refine s_ hf (r_fa fa82_1 hf rfl) fun a hf => ?_
  refine s_ hf (r_load_agg ty80 hf rfl (o1.cl.lens lProd_1) (cForm.len _)) fun a hf => ?_
  refine s_ hf (r_fa fa82_2 hf rfl) fun a hf => ?_
  refine s_ hf (r_load_agg ty80 hf rfl (o1.cl.lens lProd_2) (cForm.len _)) fun a hf => ?_
  refine s_ hf (r_build_arr (vs := [(0, .agg (cForm.enc a0.1).toArray), (1, .agg (cForm.enc a0.2.1).toArray), (2, .agg (cForm.enc a0.2.2).toArray)]) (res := (cForms.enc (#v[a0.1, a0.2.1, a0.2.2] : Forms)).toArray) Try.underlying154 sz80 ze154 hf rfl rfl ((fill_lens (d := cForms) (z := zForms) (Lens.vec zForm cForm (0 : Int) (by decide) (by decide)) rfl rfl).trans ((fill_lens (d := cForms) (z := vs zForms 0 a0.1) (Lens.vec zForm cForm (1 : Int) (by decide) (by decide)) rfl rfl).trans ((fill_lens (d := cForms) (z := vs (vs zForms 0 a0.1) 1 a0.2.1) (Lens.vec zForm cForm (2 : Int) (by decide) (by decide)) rfl rfl).trans rfl)))) fun a hf => ?_
  refine sk_ hf (r_store_w (cs' := cForms.enc (#v[a0.1, a0.2.1, a0.2.2] : Forms)) hw o2 (by decide) ty154 (cForms.len _) (cForms.len _) (cForms.one _) hf rfl rfl rfl) fun a w hf hΦ => ?_
  obtain ⟨hw, hA, o2⟩ := hΦ
  replace o1 := o1.adv hA (by decide)
  refine c_nt <| c_retc ?_
  obtain rfl := Option.some.inj hF
  refine c_ret hf (res_cell Try.results161 ty154 hf rfl o2.cl (cForms.len _)) ?_
  exact ⟨_, rfl, hw.below, rfl⟩
/-! f162 -/
noncomputable def impl_isForm_l1 (a0 : Int) (a1 : Int) (a2 : Form) (s2 : Int) : Option (LR Int Bool) :=
  if (decide (s2 < 9)) = true then (if 0 ≤ s2 ∧ s2 < 9 then ((if (decide (a0 ≤ ((vg 0 a2 s2).toNat : Int))) = true then (some true) else (if (decide (((vg 0 a2 s2).toNat : Int) ≠ 0)) = true then (some (decide (a1 ≤ s2))) else (some false))).bind fun (s6 : Bool) => if s6 = true then (some (.ret false)) else (some (.next (w64 (s2 + 1))))) else none) else (some (.stop s2))
noncomputable def impl_isForm (a0 : Int) (a1 : Int) (a2 : Form) : Option Bool :=
  (iter (fun s => impl_isForm_l1 a0 a1 a2 s) 0).bind fun o => match o with | .stop s2 => (some (true)) | .ret r => some r | .next _ => none
theorem impl_isForm_ok {w0 : World} {a0 : Int} {a1 : Int} {a2 : Form}   {r : Bool} (hF : impl_isForm a0 a1 a2 = some r) :
    Calls Try.prog 162 [vI a0, vI a1, .agg (cForm.enc a2).toArray].toArray w0 fun e w => ∃ v, e = .returned v ∧ Below w0.heap.size w0 w ∧ .bool r = v := by
  refine calls_of (k := 28) Try.func162 rfl rfl (Nat.le_of_ble_eq_true rfl) fun a hf => ?_
  replace hf : Fr 28 a [(0, vI a0), (1, vI a1), (2, .agg (cForm.enc a2).toArray)] := hf
  refine c_start fun w ρ hw => ?_
  unfold impl_isForm at hF
  refine c_seq <| c_region ?_
  refine sx_ hf (r_box (cs := cForm.enc a2) 1 hw hf rfl rfl) fun a v w hf hΦ => ?_
  obtain ⟨g1, ρ, rfl, hw, hE, o1⟩ := hΦ
  refine s_ hf (r_assign hf rfl) fun a hf => ?_
  refine c_nt <| c_seq <| c_seq <| c_region ?_
  refine s_ hf (r_load_agg ty80 hf rfl o1.cl (cForm.len _)) fun a hf => ?_
  refine s_ hf (r_move hf rfl) fun a hf => ?_
  refine c_nt ?_
  obtain ⟨ol1, ho1, hG1⟩ := of_bind hF
  clear hF
  refine c_block (c_loop (id := 0) (fun s => impl_isForm_l1 a0 a1 a2 s) (fun (s2 : Int) a w => ∃ ρ, Wd w0 ρ w ∧ Fr 28 a [(0, vI a0), (1, vI a1), (9, .agg (cForm.enc a2).toArray), (10, vI s2)]) (fun (s2 : Int) a w => ∃ ρ, Wd w0 ρ w ∧ Fr 28 a []) ho1 ⟨_, hw, hf.sub ⟨rfl, rfl, rfl, rfl, trivial⟩⟩ ?_ ?_)
  · rintro s2 lr a w ⟨ρ, hw, hf⟩ hF
    replace hF : impl_isForm_l1 a0 a1 a2 s2 = some lr := hF
    unfold impl_isForm_l1 at hF
    refine c_seq <| c_region ?_
    refine s_ hf (r_lss hf rfl rfl) fun a hf => ?_
    refine c_nt <| c_seq ?_
    rcases of_ite hF with ⟨hb3, hF⟩ | ⟨hb3, hF⟩
    rotate_left
    · refine c_iff hf rfl hb3 <| c_exit <| x_then ?_
      obtain rfl := Option.some.inj hF
      exact Rnd.stops ⟨_, hw, hf.sub trivial⟩
    refine c_ift hf rfl hb3 <| c_skip <| n_then <| c_seq <| c_block <| c_seq <| c_region ?_
    refine s_ hf (r_move hf rfl) fun a hf => ?_
    obtain ⟨hc4, hF⟩ := of_guard hF
    refine s_ hf (r_index_lc Try.underlying80 ty5 hf rfl rfl hc4.1 hc4.2 (Lens.vec 0 fU8 s2 hc4.1 hc4.2) rfl) fun a hf => ?_
    refine s_ hf (r_assign hf rfl) fun a hf => ?_
    refine s_ hf (r_assign hf rfl) fun a hf => ?_
    refine c_nt <| c_seq ?_
    obtain ⟨s6, hT5, hG5⟩ := of_bind hF
    clear hF
    refine c_meet (fun (s6 : Bool) a w => ∃ ρ, Wd w0 ρ w ∧ Fr 28 a [(0, vI a0), (1, vI a1), (9, .agg (cForm.enc a2).toArray), (10, vI s2), (26, .bool s6)]) s6 ?_ ?_
    · have hF := hT5
      refine c_region ?_
      refine s_ hf (r_move hf rfl) fun a hf => ?_
      refine s_ hf (r_conv_u8_i64 Try.underlying5 Try.underlying2 hf rfl) fun a hf => ?_
      refine s_ hf (r_move hf rfl) fun a hf => ?_
      refine s_ hf (r_geq hf rfl rfl) fun a hf => ?_
      refine s_ hf (r_move hf rfl) fun a hf => ?_
      rcases of_ite hF with ⟨hb7, hF⟩ | ⟨hb7, hF⟩
      · refine st_no (b := true) hf rfl rfl rfl hb7 rfl (by decide) fun a hf => ?_
        refine st_no (b := true) hf rfl rfl rfl hb7 rfl (by decide) fun a hf => ?_
        refine st_no (b := true) hf rfl rfl rfl hb7 rfl (by decide) fun a hf => ?_
        refine st_nu hf rfl rfl rfl rfl (by decide) fun a hf => ?_
        refine st_nu hf rfl rfl rfl rfl (by decide) fun a hf => ?_
        refine st_nu hf rfl rfl rfl rfl (by decide) fun a hf => ?_
        refine st_no (b := true) hf rfl rfl rfl hb7 rfl (by decide) fun a hf => ?_
        refine s_ hf (r_pick (b := true) hf rfl hb7 rfl) fun a hf => ?_
        refine c_nil ⟨rfl, ?_⟩
        obtain rfl := Option.some.inj hF
        exact ⟨_, hw, hf.sub ⟨rfl, rfl, rfl, rfl, rfl, trivial⟩⟩
      refine st_g (b := false) hf rfl rfl rfl hb7 rfl (by decide) (r_move hf rfl) fun a hf => ?_
      refine st_g (b := false) hf rfl rfl rfl hb7 rfl (by decide) (r_neq hf rfl rfl) fun a hf => ?_
      refine st_g (b := false) hf rfl rfl rfl hb7 rfl (by decide) (r_move hf rfl) fun a hf => ?_
      rcases of_ite hF with ⟨hb8, hF⟩ | ⟨hb8, hF⟩
      rotate_left
      · refine st_no (b := false) hf rfl rfl rfl hb8 rfl (by decide) fun a hf => ?_
        refine st_no (b := false) hf rfl rfl rfl hb8 rfl (by decide) fun a hf => ?_
        refine st_no (b := false) hf rfl rfl rfl hb8 rfl (by decide) fun a hf => ?_
        refine st_g (b := false) hf rfl rfl rfl hb7 rfl (by decide) (r_pick (b := false) hf rfl hb8 rfl) fun a hf => ?_
        refine s_ hf (r_pick (b := false) hf rfl hb7 rfl) fun a hf => ?_
        refine c_nil ⟨rfl, ?_⟩
        obtain rfl := Option.some.inj hF
        exact ⟨_, hw, hf.sub ⟨rfl, rfl, rfl, rfl, rfl, trivial⟩⟩
      refine st_g (b := true) hf rfl rfl rfl hb8 rfl (by decide) (r_move hf rfl) fun a hf => ?_
      refine st_g (b := true) hf rfl rfl rfl hb8 rfl (by decide) (r_move hf rfl) fun a hf => ?_
      refine st_g (b := true) hf rfl rfl rfl hb8 rfl (by decide) (r_geq hf rfl rfl) fun a hf => ?_
      refine st_g (b := false) hf rfl rfl rfl hb7 rfl (by decide) (r_pick (b := true) hf rfl hb8 rfl) fun a hf => ?_
      refine s_ hf (r_pick (b := false) hf rfl hb7 rfl) fun a hf => ?_
      refine c_nil ⟨rfl, ?_⟩
      obtain rfl := Option.some.inj hF
      exact ⟨_, hw, hf.sub ⟨rfl, rfl, rfl, rfl, rfl, trivial⟩⟩
    rintro a w ⟨ρ, hw, hf⟩
    have hF := hG5
    refine n_then ?_
    rcases of_ite hF with ⟨hb9, hF⟩ | ⟨hb9, hF⟩
    rotate_left
    · refine c_iff hf rfl hb9 <| c_skip <| n_block <| n_then <| c_region ?_
      refine s_ hf (r_add hf rfl rfl) fun a hf => ?_
      refine s_ hf (r_move hf rfl) fun a hf => ?_
      refine c_nil ?_
      obtain rfl := Option.some.inj hF
      exact Rnd.goes ⟨_, hw, hf.sub ⟨rfl, rfl, rfl, rfl, trivial⟩⟩
    refine c_ift hf rfl hb9 <| c_seq <| c_region ?_
    refine s_ hf (r_assign hf rfl) fun a hf => ?_
    refine c_nt <| c_retc ?_
    obtain rfl := Option.some.inj hF
    refine r_block <| r_then ?_
    refine Rnd.rets fun ho => ?_
    subst ho
    have hF := hG1
    dsimp only at hF
    obtain rfl := Option.some.inj hF
    refine r_block <| r_then <| c_ret hf (res_tmp Try.results162 hf rfl) ?_
    exact ⟨_, rfl, hw.below, rfl⟩
  rintro s2 a w hs ⟨ρ, hw, hf⟩
  subst hs
  have hF := hG1
  dsimp only at hF
  refine x_block <| n_then <| c_seq <| c_region ?_
  refine s_ hf (r_assign hf rfl) fun a hf => ?_
  refine c_nt <| c_retc ?_
  obtain rfl := Option.some.inj hF
  refine c_ret hf (res_tmp Try.results162 hf rfl) ?_
  exact ⟨_, rfl, hw.below, rfl⟩
/-! f163 -/
noncomputable def impl_hasZero (a0 : Prod) : Option Bool :=
  (if (decide (a0.1 = zForm)) = true then (some true) else (if (decide (a0.2.1 = zForm)) = true then (some true) else (some (decide (a0.2.2 = zForm))))).bind fun (s2 : Bool) => some (s2)
theorem impl_hasZero_ok {w0 : World} {a0 : Prod}   {r : Bool} (hF : impl_hasZero a0 = some r) :
    Calls Try.prog 163 [.agg (cProd.enc a0).toArray].toArray w0 fun e w => ∃ v, e = .returned v ∧ Below w0.heap.size w0 w ∧ .bool r = v := by
  refine calls_of (k := 19) Try.func163 rfl rfl (Nat.le_of_ble_eq_true rfl) fun a hf => ?_
  replace hf : Fr 19 a [(0, .agg (cProd.enc a0).toArray)] := hf
  refine c_start fun w ρ hw => ?_
  unfold impl_hasZero at hF
  refine c_seq <| c_region ?_
  refine sx_ hf (r_box (cs := cProd.enc a0) 1 hw hf rfl rfl) fun a v w hf hΦ => ?_
  obtain ⟨g1, ρ, rfl, hw, hE, o1⟩ := hΦ
  refine s_ hf (r_assign hf rfl) fun a hf => ?_
  refine c_nt <| c_seq ?_
  obtain ⟨s2, hT1, hG1⟩ := of_bind hF
  clear hF
  refine c_meet (fun (s2 : Bool) a w => ∃ ρ, Wd w0 ρ w ∧ Fr 19 a [(2, .bool s2)]) s2 ?_ ?_
  · have hF := hT1
    refine c_region ?_
    refine s_ hf (r_fa fa82_0 hf rfl) fun a hf => ?_
    refine s_ hf (r_load_agg ty80 hf rfl (o1.cl.lens lProd_0) (cForm.len _)) fun a hf => ?_
    refine s_ hf (r_build_arr (vs := []) (res := (cForm.enc zForm).toArray) Try.underlying80 sz5 ze80 hf rfl rfl rfl) fun a hf => ?_
    refine s_ hf (r_eq (d := cForm) eq80 ⟨_, rfl⟩ gt80 hf rfl rfl) fun a hf => ?_
    refine s_ hf (r_move hf rfl) fun a hf => ?_
    rcases of_ite hF with ⟨hb3, hF⟩ | ⟨hb3, hF⟩
    · refine st_no (b := true) hf rfl rfl rfl hb3 rfl (by decide) fun a hf => ?_
      refine st_no (b := true) hf rfl rfl rfl hb3 rfl (by decide) fun a hf => ?_
      refine st_no (b := true) hf rfl rfl rfl hb3 rfl (by decide) fun a hf => ?_
      refine st_no (b := true) hf rfl rfl rfl hb3 rfl (by decide) fun a hf => ?_
      refine s_ hf (r_pick (b := true) hf rfl hb3 rfl) fun a hf => ?_
      refine s_ hf (r_move hf rfl) fun a hf => ?_
      refine st_no (b := true) hf rfl rfl rfl rfl rfl (by decide) fun a hf => ?_
      refine st_no (b := true) hf rfl rfl rfl rfl rfl (by decide) fun a hf => ?_
      refine st_no (b := true) hf rfl rfl rfl rfl rfl (by decide) fun a hf => ?_
      refine st_no (b := true) hf rfl rfl rfl rfl rfl (by decide) fun a hf => ?_
      refine s_ hf (r_pick (b := true) hf rfl rfl rfl) fun a hf => ?_
      refine s_ hf (r_assign hf rfl) fun a hf => ?_
      refine c_nil ⟨rfl, ?_⟩
      obtain rfl := Option.some.inj hF
      exact ⟨_, hw, hf.sub ⟨rfl, trivial⟩⟩
    refine st_g (b := false) hf rfl rfl rfl hb3 rfl (by decide) (r_fa fa82_1 hf rfl) fun a hf => ?_
    refine st_g (b := false) hf rfl rfl rfl hb3 rfl (by decide) (r_load_agg ty80 hf rfl (o1.cl.lens lProd_1) (cForm.len _)) fun a hf => ?_
    refine st_g (b := false) hf rfl rfl rfl hb3 rfl (by decide) (r_build_arr (vs := []) (res := (cForm.enc zForm).toArray) Try.underlying80 sz5 ze80 hf rfl rfl rfl) fun a hf => ?_
    refine st_g (b := false) hf rfl rfl rfl hb3 rfl (by decide) (r_eq (d := cForm) eq80 ⟨_, rfl⟩ gt80 hf rfl rfl) fun a hf => ?_
    refine s_ hf (r_pick (b := false) hf rfl hb3 rfl) fun a hf => ?_
    refine s_ hf (r_move hf rfl) fun a hf => ?_
    rcases of_ite hF with ⟨hb4, hF⟩ | ⟨hb4, hF⟩
    · refine st_no (b := true) hf rfl rfl rfl hb4 rfl (by decide) fun a hf => ?_
      refine st_no (b := true) hf rfl rfl rfl hb4 rfl (by decide) fun a hf => ?_
      refine st_no (b := true) hf rfl rfl rfl hb4 rfl (by decide) fun a hf => ?_
      refine st_no (b := true) hf rfl rfl rfl hb4 rfl (by decide) fun a hf => ?_
      refine s_ hf (r_pick (b := true) hf rfl hb4 rfl) fun a hf => ?_
      refine s_ hf (r_assign hf rfl) fun a hf => ?_
      refine c_nil ⟨rfl, ?_⟩
      obtain rfl := Option.some.inj hF
      exact ⟨_, hw, hf.sub ⟨rfl, trivial⟩⟩
    refine st_g (b := false) hf rfl rfl rfl hb4 rfl (by decide) (r_fa fa82_2 hf rfl) fun a hf => ?_
    refine st_g (b := false) hf rfl rfl rfl hb4 rfl (by decide) (r_load_agg ty80 hf rfl (o1.cl.lens lProd_2) (cForm.len _)) fun a hf => ?_
    refine st_g (b := false) hf rfl rfl rfl hb4 rfl (by decide) (r_build_arr (vs := []) (res := (cForm.enc zForm).toArray) Try.underlying80 sz5 ze80 hf rfl rfl rfl) fun a hf => ?_
    refine st_g (b := false) hf rfl rfl rfl hb4 rfl (by decide) (r_eq (d := cForm) eq80 ⟨_, rfl⟩ gt80 hf rfl rfl) fun a hf => ?_
    refine s_ hf (r_pick (b := false) hf rfl hb4 rfl) fun a hf => ?_
    refine s_ hf (r_assign hf rfl) fun a hf => ?_
    refine c_nil ⟨rfl, ?_⟩
    obtain rfl := Option.some.inj hF
    exact ⟨_, hw, hf.sub ⟨rfl, trivial⟩⟩
  rintro a w ⟨ρ, hw, hf⟩
  have hF := hG1
  refine n_then <| c_retc ?_
  obtain rfl := Option.some.inj hF
  refine c_ret hf (res_tmp Try.results163 hf rfl) ?_
  exact ⟨_, rfl, hw.below, rfl⟩
/-! f129 -/
noncomputable def impl_isProduct_l3 (a0 : Int) (a1 : Vec3) (x1 : Forms) (s4 : Int) : Option (LR Int Bool) :=
  if (decide (s4 < 3)) = true then (if 0 ≤ s4 ∧ s4 < 3 then ((impl_isForm a0 (vg 0 a1 s4) (vg zForm x1 s4)).bind fun x7 => if (!x7) = true then (some (.ret false)) else (some (.next (w64 (s4 + 1))))) else none) else (some (.stop s4))
noncomputable def impl_isProduct (a0 : Int) (a1 : Vec3) (a2 : Prod) : Option Bool :=
  (impl_factors a2).bind fun x1 => (iter (fun s => impl_isProduct_l3 a0 a1 x1 s) 0).bind fun o => match o with | .stop s4 => ((impl_hasZero a2).bind fun x10 => some (!x10)) | .ret r => some r | .next _ => none
theorem impl_isProduct_ok {w0 : World} {a0 : Int} {a1 : Vec3} {a2 : Prod}   {r : Bool} (hF : impl_isProduct a0 a1 a2 = some r) :
    Calls Try.prog 129 [vI a0, .agg (cVec3.enc a1).toArray, .agg (cProd.enc a2).toArray].toArray w0 fun e w => ∃ v, e = .returned v ∧ Below w0.heap.size w0 w ∧ .bool r = v := by
  refine calls_of (k := 26) Try.func129 rfl rfl (Nat.le_of_ble_eq_true rfl) fun a hf => ?_
  replace hf : Fr 26 a [(0, vI a0), (1, .agg (cVec3.enc a1).toArray), (2, .agg (cProd.enc a2).toArray)] := hf
  refine c_start fun w ρ hw => ?_
  unfold impl_isProduct at hF
  refine c_seq <| c_region ?_
  refine sx_ hf (r_box (cs := cVec3.enc a1) 1 hw hf rfl rfl) fun a v w hf hΦ => ?_
  obtain ⟨g1, ρ, rfl, hw, hE, o1⟩ := hΦ
  refine sx_ hf (r_box (cs := cProd.enc a2) 2 hw hf rfl rfl) fun a v w hf hΦ => ?_
  obtain ⟨g2, ρ, rfl, hw, hE, o2⟩ := hΦ
  replace o1 := o1.ext hE
  refine s_ hf (r_assign hf rfl) fun a hf => ?_
  refine c_nt <| c_seq <| c_seq <| c_region ?_
  refine s_ hf (r_load_agg ty82 hf rfl o2.cl (cProd.len _)) fun a hf => ?_
  obtain ⟨x1, hx2, hF⟩ := of_bind hF
  refine st_fn 3 hw hf rfl rfl (by decide) (r_fn en161 hf rfl) (impl_factors_ok  hx2) fun a v w ρ hf hw hE hN hΦ => ?_
  obtain rfl := hΦ
  replace o1 := o1.ext hE
  replace o2 := o2.ext hE
  refine s_ hf (r_move hf rfl) fun a hf => ?_
  refine c_nt ?_
  obtain ⟨ol3, ho3, hG3⟩ := of_bind hF
  clear hF
  refine c_block (c_loop (id := 0) (fun s => impl_isProduct_l3 a0 a1 x1 s) (fun (s4 : Int) a w => ∃ ρ, Wd w0 ρ w ∧ Fr 26 a [(0, vI a0), (4, .pointer (some ((⟨g1, 0, none⟩ : Addr).add 0))), (5, .pointer (some ((⟨g2, 0, none⟩ : Addr).add 0))), (10, .agg (cForms.enc x1).toArray), (11, vI s4)] ∧ Va ρ w 1 g1 84 (cVec3.enc a1) ∧ Va ρ w 2 g2 82 (cProd.enc a2)) (fun (s4 : Int) a w => ∃ ρ, Wd w0 ρ w ∧ Fr 26 a [(5, .pointer (some ((⟨g2, 0, none⟩ : Addr).add 0)))] ∧ Va ρ w 2 g2 82 (cProd.enc a2)) ho3 ⟨_, hw, hf.sub ⟨rfl, rfl, rfl, rfl, rfl, trivial⟩, o1, o2⟩ ?_ ?_)
  · rintro s4 lr a w ⟨ρ, hw, hf, o1, o2⟩ hF
    replace hF : impl_isProduct_l3 a0 a1 x1 s4 = some lr := hF
    unfold impl_isProduct_l3 at hF
    refine c_seq <| c_region ?_
    refine s_ hf (r_lss hf rfl rfl) fun a hf => ?_
    refine c_nt <| c_seq ?_
    rcases of_ite hF with ⟨hb5, hF⟩ | ⟨hb5, hF⟩
    rotate_left
    · refine c_iff hf rfl hb5 <| c_exit <| x_then ?_
      obtain rfl := Option.some.inj hF
      exact Rnd.stops ⟨_, hw, hf.sub ⟨rfl, trivial⟩, o2⟩
    refine c_ift hf rfl hb5 <| c_skip <| n_then <| c_seq <| c_block <| c_seq <| c_region ?_
    refine s_ hf (r_move hf rfl) fun a hf => ?_
    obtain ⟨hc6, hF⟩ := of_guard hF
    refine s_ hf (r_index_la Try.underlying154 ty80 hf rfl rfl hc6.1 hc6.2 (Lens.vec zForm cForm s4 hc6.1 hc6.2)) fun a hf => ?_
    refine sx_ hf (r_alloc (cs := cForm.enc zForm) 4 ze80 rfl hw) fun a v w hf hΦ => ?_
    obtain ⟨g4, ρ, rfl, hw, hE, o4⟩ := hΦ
    replace o1 := o1.ext hE
    replace o2 := o2.ext hE
    refine s_ hf (r_assign hf rfl) fun a hf => ?_
    refine sk_ hf (r_store_w (cs' := cForm.enc (vg zForm x1 s4)) hw o4 (by decide) ty80 (cForm.len _) (cForm.len _) (cForm.one _) hf rfl rfl rfl) fun a w hf hΦ => ?_
    obtain ⟨hw, hA, o4⟩ := hΦ
    replace o1 := o1.adv hA (by decide)
    replace o2 := o2.adv hA (by decide)
    refine c_nt <| c_seq ?_
    replace hf : Fr 26 a [(0, vI a0), (4, .pointer (some ((⟨g1, 0, none⟩ : Addr).add 0))), (5, .pointer (some ((⟨g2, 0, none⟩ : Addr).add 0))), (7, vI s4), (8, .pointer (some ((⟨g4, 0, none⟩ : Addr).add 0))), (10, .agg (cForms.enc x1).toArray), (11, vI s4)] := hf.sub ⟨rfl, rfl, rfl, rfl, rfl, rfl, rfl, trivial⟩
    refine c_drawL (h := 5) mixed (by kernel_rfl) (by kernel_rfl) (fun ρ w => Va ρ w 1 g1 84 (cVec3.enc a1) ∧ Va ρ w 2 g2 82 (cProd.enc a2) ∧ Va ρ w 4 g4 80 (cForm.enc (vg zForm x1 s4))) ?_ [fun ρ w v => vI a0 = v, fun ρ w v => vI s4 = v, fun ρ w v => .pointer (some ((⟨g1, 0, none⟩ : Addr).add (0 + s4.toNat * 1))) = v, fun ρ w v => vI (vg 0 a1 s4) = v, fun ρ w v => .agg (cForm.enc (vg zForm x1 s4)).toArray = v] ?_ hw ⟨o1, o2, o4⟩ hf ?_ ?_
    · intro ρ w ρ' w' hE hG
      obtain ⟨o1, o2, o4⟩ := hG
      exact ⟨o1.ext hE, o2.ext hE, o4.ext hE⟩
    · exact LastsL.cons (fun _ _ _ _ _ _ h => h) <| LastsL.cons (fun _ _ _ _ _ _ h => h) <| LastsL.cons (fun _ _ _ _ _ _ h => h) <| LastsL.cons (fun _ _ _ _ _ _ h => h) <| LastsL.cons (fun _ _ _ _ _ _ h => h) <| LastsL.nil
    · refine StepsB.cons ?_ <| StepsB.cons ?_ <| StepsB.cons ?_ <| StepsB.cons ?_ <| StepsB.cons ?_ <| StepsB.nil
      · intro ρ w a hw hG hf hd K hK
        obtain ⟨o1, o2, o4⟩ := hG
        exact dv_ hK hw (wn rfl) (r_move hf rfl) rfl
      · intro ρ w a hw hG hf hd K hK
        obtain ⟨o1, o2, o4⟩ := hG
        exact dv_ hK hw (wn rfl) (r_move hf rfl) rfl
      · intro ρ w a hw hG hf hd K hK
        obtain ⟨o1, o2, o4⟩ := hG
        obtain ⟨_, hf, rfl⟩ := got (hd 1 (by kernel_rfl)) hf
        exact dv_ hK hw (wn rfl) (r_indexAddr_arr Try.underlying84 sz2 hf rfl rfl hc6.1 hc6.2) rfl
      · intro ρ w a hw hG hf hd K hK
        obtain ⟨o1, o2, o4⟩ := hG
        obtain ⟨_, hf, rfl⟩ := got (hd 2 (by kernel_rfl)) hf
        exact dv_ hK hw (wn rfl) (r_load_cell ty2 hf rfl (o1.cl.lens (Lens.vec 0 fI64 s4 hc6.1 hc6.2))) rfl
      · intro ρ w a hw hG hf hd K hK
        obtain ⟨o1, o2, o4⟩ := hG
        exact dv_ hK hw (wn rfl) (r_load_agg ty80 hf rfl o4.cl (cForm.len _)) rfl
    intro ρ w a hw hG hf hd
    obtain ⟨o1, o2, o4⟩ := hG
    obtain ⟨_, hf, rfl⟩ := got (hd 0 (by decide)) hf
    obtain ⟨_, hf, rfl⟩ := got (hd 3 (by decide)) hf
    obtain ⟨_, hf, rfl⟩ := got (hd 4 (by decide)) hf
    obtain ⟨x7, hx8, hF⟩ := of_bind hF
    refine st_fn 5 hw hf rfl rfl (by decide) (r_fn en162 hf rfl) (impl_isForm_ok  hx8) fun a v w ρ hf hw hE hN hΦ => ?_
    obtain rfl := hΦ
    replace o1 := o1.ext hE
    replace o2 := o2.ext hE
    replace o4 := o4.ext hE
    refine s_ hf (r_not hf rfl) fun a hf => ?_
    refine c_nt ?_
    rcases of_ite hF with ⟨hb9, hF⟩ | ⟨hb9, hF⟩
    rotate_left
    · refine c_iff hf rfl hb9 <| c_skip <| n_block <| n_then <| c_region ?_
      refine s_ hf (r_add hf rfl rfl) fun a hf => ?_
      refine s_ hf (r_move hf rfl) fun a hf => ?_
      refine c_nil ?_
      obtain rfl := Option.some.inj hF
      exact Rnd.goes ⟨_, hw, hf.sub ⟨rfl, rfl, rfl, rfl, rfl, trivial⟩, o1, o2⟩
    refine c_ift hf rfl hb9 <| c_seq <| c_region ?_
    refine s_ hf (r_assign hf rfl) fun a hf => ?_
    refine c_nt <| c_retc ?_
    obtain rfl := Option.some.inj hF
    refine r_block <| r_then ?_
    refine Rnd.rets fun ho => ?_
    subst ho
    have hF := hG3
    dsimp only at hF
    obtain rfl := Option.some.inj hF
    refine r_block <| r_then <| c_ret hf (res_tmp Try.results129 hf rfl) ?_
    exact ⟨_, rfl, hw.below, rfl⟩
  rintro s4 a w hs ⟨ρ, hw, hf, o2⟩
  subst hs
  have hF := hG3
  dsimp only at hF
  refine x_block <| n_then <| c_seq <| c_region ?_
  refine s_ hf (r_load_agg ty82 hf rfl o2.cl (cProd.len _)) fun a hf => ?_
  obtain ⟨x10, hx11, hF⟩ := of_bind hF
  refine st_fn 6 hw hf rfl rfl (by decide) (r_fn en163 hf rfl) (impl_hasZero_ok  hx11) fun a v w ρ hf hw hE hN hΦ => ?_
  obtain rfl := hΦ
  replace o2 := o2.ext hE
  refine s_ hf (r_not hf rfl) fun a hf => ?_
  refine s_ hf (r_assign hf rfl) fun a hf => ?_
  refine c_nt <| c_retc ?_
  obtain rfl := Option.some.inj hF
  refine c_ret hf (res_tmp Try.results129 hf rfl) ?_
  exact ⟨_, rfl, hw.below, rfl⟩
/-! f130 -/
noncomputable def impl_placesOf (a0 : Sch) : Option Vec3 :=
  some ((#v[w64 (a0.n * a0.m), w64 (a0.m * a0.k), w64 (a0.n * a0.k)] : Vec3))
theorem impl_placesOf_ok {w0 : World} {a0 : Sch} {va0 : Value} (h0 : Ro (kf cProd) w0 va0 a0.ps) {r : Vec3} (hF : impl_placesOf a0 = some r) :
    Calls Try.prog 130 [.agg ([vI a0.p, vI a0.n, vI a0.m, vI a0.k, va0]).toArray].toArray w0 fun e w => ∃ v, e = .returned v ∧ Below w0.heap.size w0 w ∧ .agg (cVec3.enc r).toArray = v := by
  refine calls_of (k := 19) Try.func130 rfl rfl (Nat.le_of_ble_eq_true rfl) fun a hf => ?_
  replace hf : Fr 19 a [(0, .agg ([vI a0.p, vI a0.n, vI a0.m, vI a0.k, va0]).toArray)] := hf
  refine c_start fun w ρ hw => ?_
  unfold impl_placesOf at hF
  refine c_seq <| c_region ?_
  refine sx_ hf (r_box (cs := [vI a0.p, vI a0.n, vI a0.m, vI a0.k, va0]) 1 hw hf rfl rfl) fun a v w hf hΦ => ?_
  obtain ⟨g1, ρ, rfl, hw, hE, o1⟩ := hΦ
  refine sx_ hf (r_alloc (cs := cVec3.enc zVec3) 2 ze84 rfl hw) fun a v w hf hΦ => ?_
  obtain ⟨g2, ρ, rfl, hw, hE, o2⟩ := hΦ
  replace o1 := o1.ext hE
  refine c_nt <| c_seq <| c_region ?_
  refine s_ hf (r_fa fa39_1 hf rfl) fun a hf => ?_
  refine s_ hf (r_load_cell ty2 hf rfl (o1.cl.at_ 1 _ rfl)) fun a hf => ?_
  refine s_ hf (r_fa fa39_2 hf rfl) fun a hf => ?_
  refine s_ hf (r_load_cell ty2 hf rfl (o1.cl.at_ 2 _ rfl)) fun a hf => ?_
  refine s_ hf (r_mul hf rfl rfl) fun a hf => ?_
  refine s_ hf (r_fa fa39_2 hf rfl) fun a hf => ?_
  refine s_ hf (r_load_cell ty2 hf rfl (o1.cl.at_ 2 _ rfl)) fun a hf => ?_
  refine s_ hf (r_fa fa39_3 hf rfl) fun a hf => ?_
  refine s_ hf (r_load_cell ty2 hf rfl (o1.cl.at_ 3 _ rfl)) fun a hf => ?_
  refine s_ hf (r_mul hf rfl rfl) fun a hf => ?_
  refine s_ hf (r_fa fa39_1 hf rfl) fun a hf => ?_
  refine s_ hf (r_load_cell ty2 hf rfl (o1.cl.at_ 1 _ rfl)) fun a hf => ?_
  refine s_ hf (r_fa fa39_3 hf rfl) fun a hf => ?_
  refine s_ hf (r_load_cell ty2 hf rfl (o1.cl.at_ 3 _ rfl)) fun a hf => ?_
  refine s_ hf (r_mul hf rfl rfl) fun a hf => ?_
  refine s_ hf (r_build_arr (vs := [(0, vI (w64 (a0.n * a0.m))), (1, vI (w64 (a0.m * a0.k))), (2, vI (w64 (a0.n * a0.k)))]) (res := (cVec3.enc (#v[w64 (a0.n * a0.m), w64 (a0.m * a0.k), w64 (a0.n * a0.k)] : Vec3)).toArray) Try.underlying84 sz2 ze84 hf rfl rfl ((fill_lens (d := cVec3) (z := zVec3) (Lens.vec 0 fI64 (0 : Int) (by decide) (by decide)) rfl rfl).trans ((fill_lens (d := cVec3) (z := vs zVec3 0 (w64 (a0.n * a0.m))) (Lens.vec 0 fI64 (1 : Int) (by decide) (by decide)) rfl rfl).trans ((fill_lens (d := cVec3) (z := vs (vs zVec3 0 (w64 (a0.n * a0.m))) 1 (w64 (a0.m * a0.k))) (Lens.vec 0 fI64 (2 : Int) (by decide) (by decide)) rfl rfl).trans rfl)))) fun a hf => ?_
  refine sk_ hf (r_store_w (cs' := cVec3.enc (#v[w64 (a0.n * a0.m), w64 (a0.m * a0.k), w64 (a0.n * a0.k)] : Vec3)) hw o2 (by decide) ty84 (cVec3.len _) (cVec3.len _) (cVec3.one _) hf rfl rfl rfl) fun a w hf hΦ => ?_
  obtain ⟨hw, hA, o2⟩ := hΦ
  replace o1 := o1.adv hA (by decide)
  refine c_nt <| c_retc ?_
  obtain rfl := Option.some.inj hF
  refine c_ret hf (res_cell Try.results130 ty84 hf rfl o2.cl (cVec3.len _)) ?_
  exact ⟨_, rfl, hw.below, rfl⟩
/-! f84 -/
noncomputable def impl_IsScheme_l10 (a0 : Sch) (s11 : Int) : Option (LR Int Bool) :=
  if (decide (s11 < (a0.ps.length : Int))) = true then (if 0 ≤ s11 ∧ s11 < (a0.ps.length : Int) then ((impl_placesOf a0).bind fun x15 => (impl_isProduct a0.p x15 (gl zProd a0.ps s11)).bind fun x17 => if (!x17) = true then (some (.ret false)) else (some (.next (w64 (s11 + 1))))) else none) else (some (.stop s11))
noncomputable def impl_IsScheme (a0 : Sch) : Option Bool :=
  ((impl_isPrime a0.p).bind fun x3 => if (!x3) = true then (some true) else ((impl_isSize ([a0.n, a0.m, a0.k])).bind fun x6 => if (!x6) = true then (some true) else (some (decide (30 < (a0.ps.length : Int)))))).bind fun (s2 : Bool) => if s2 = true then (some (false)) else ((iter (fun s => impl_IsScheme_l10 a0 s) 0).bind fun o => match o with | .stop s11 => (some (true)) | .ret r => some r | .next _ => none)
theorem impl_IsScheme_ok {w0 : World} {a0 : Sch} {va0 : Value} (h0 : Ro (kf cProd) w0 va0 a0.ps) {r : Bool} (hF : impl_IsScheme a0 = some r) :
    Calls Try.prog 84 [.agg ([vI a0.p, vI a0.n, vI a0.m, vI a0.k, va0]).toArray].toArray w0 fun e w => ∃ v, e = .returned v ∧ Below w0.heap.size w0 w ∧ .bool r = v := by
  refine calls_of (k := 41) Try.func84 rfl rfl (Nat.le_of_ble_eq_true rfl) fun a hf => ?_
  replace hf : Fr 41 a [(0, .agg ([vI a0.p, vI a0.n, vI a0.m, vI a0.k, va0]).toArray)] := hf
  refine c_start fun w ρ hw => ?_
  unfold impl_IsScheme at hF
  refine c_seq <| c_region ?_
  refine sx_ hf (r_box (cs := [vI a0.p, vI a0.n, vI a0.m, vI a0.k, va0]) 1 hw hf rfl rfl) fun a v w hf hΦ => ?_
  obtain ⟨g1, ρ, rfl, hw, hE, o1⟩ := hΦ
  refine s_ hf (r_assign hf rfl) fun a hf => ?_
  refine c_nt <| c_seq <| c_seq ?_
  obtain ⟨s2, hT1, hG1⟩ := of_bind hF
  clear hF
  refine c_meet (fun (s2 : Bool) a w => ∃ ρ, Wd w0 ρ w ∧ Fr 41 a [(1, .pointer (some ((⟨g1, 0, none⟩ : Addr).add 0))), (25, .bool s2)] ∧ Va ρ w 1 g1 39 ([vI a0.p, vI a0.n, vI a0.m, vI a0.k, va0])) s2 ?_ ?_
  · have hF := hT1
    refine c_region ?_
    refine s_ hf (r_fa fa39_0 hf rfl) fun a hf => ?_
    refine s_ hf (r_load_cell ty2 hf rfl (o1.cl.at_ 0 _ rfl)) fun a hf => ?_
    obtain ⟨x3, hx4, hF⟩ := of_bind hF
    refine st_fn 2 hw hf rfl rfl (by decide) (r_fn en62 hf rfl) (impl_isPrime_ok  hx4) fun a v w ρ hf hw hE hN hΦ => ?_
    obtain rfl := hΦ
    replace o1 := o1.ext hE
    refine s_ hf (r_not hf rfl) fun a hf => ?_
    refine s_ hf (r_move hf rfl) fun a hf => ?_
    rcases of_ite hF with ⟨hb5, hF⟩ | ⟨hb5, hF⟩
    · refine st_no (b := true) hf rfl rfl rfl hb5 rfl (by decide) fun a hf => ?_
      refine st_no (b := true) hf rfl rfl rfl hb5 rfl (by decide) fun a hf => ?_
      refine st_no (b := true) hf rfl rfl rfl hb5 rfl (by decide) fun a hf => ?_
      refine st_no (b := true) hf rfl rfl rfl hb5 rfl (by decide) fun a hf => ?_
      refine st_no (b := true) hf rfl rfl rfl hb5 rfl (by decide) fun a hf => ?_
      refine st_no (b := true) hf rfl rfl rfl hb5 rfl (by decide) fun a hf => ?_
      refine st_no (b := true) hf rfl rfl rfl hb5 rfl (by decide) fun a hf => ?_
      refine st_no (b := true) hf rfl rfl rfl hb5 rfl (by decide) fun a hf => ?_
      refine st_no (b := true) hf rfl rfl rfl hb5 rfl (by decide) fun a hf => ?_
      refine s_ hf (r_pick (b := true) hf rfl hb5 rfl) fun a hf => ?_
      refine s_ hf (r_move hf rfl) fun a hf => ?_
      refine st_no (b := true) hf rfl rfl rfl rfl rfl (by decide) fun a hf => ?_
      refine st_no (b := true) hf rfl rfl rfl rfl rfl (by decide) fun a hf => ?_
      refine st_no (b := true) hf rfl rfl rfl rfl rfl (by decide) fun a hf => ?_
      refine st_no (b := true) hf rfl rfl rfl rfl rfl (by decide) fun a hf => ?_
      refine s_ hf (r_pick (b := true) hf rfl rfl rfl) fun a hf => ?_
      refine c_nil ⟨rfl, ?_⟩
      obtain rfl := Option.some.inj hF
      exact ⟨_, hw, hf.sub ⟨rfl, rfl, trivial⟩, o1⟩
    refine st_g (b := false) hf rfl rfl rfl hb5 rfl (by decide) (r_fa fa39_1 hf rfl) fun a hf => ?_
    refine st_g (b := false) hf rfl rfl rfl hb5 rfl (by decide) (r_load_cell ty2 hf rfl (o1.cl.at_ 1 _ rfl)) fun a hf => ?_
    refine st_g (b := false) hf rfl rfl rfl hb5 rfl (by decide) (r_fa fa39_2 hf rfl) fun a hf => ?_
    refine st_g (b := false) hf rfl rfl rfl hb5 rfl (by decide) (r_load_cell ty2 hf rfl (o1.cl.at_ 2 _ rfl)) fun a hf => ?_
    refine st_g (b := false) hf rfl rfl rfl hb5 rfl (by decide) (r_fa fa39_3 hf rfl) fun a hf => ?_
    refine st_g (b := false) hf rfl rfl rfl hb5 rfl (by decide) (r_load_cell ty2 hf rfl (o1.cl.at_ 3 _ rfl)) fun a hf => ?_
    refine st_gex (b := false) hf rfl rfl rfl hb5 rfl (by decide) (r_lit (d := fI64) (xs := ([a0.n, a0.m, a0.k] : List Int)) (vs := [vI a0.n, vI a0.m, vI a0.k]) 3 Try.underlying36 el2 (Nat.le_of_ble_eq_true rfl) (Nat.le_of_ble_eq_true rfl) hw hf rfl rfl rfl) fun a v3 w hf hΦ => ?_
    obtain ⟨ρ, hw, hE, o3⟩ := hΦ
    replace o1 := o1.ext hE
    obtain ⟨x6, hx7, hF⟩ := of_bind hF
    refine st_gfn (b := false) 4 hw hf rfl rfl rfl hb5 rfl (by decide) (r_fn en63 hf rfl) (impl_isSize_ok o3.ro hx7) fun a v w ρ hf hw hE hN hΦ => ?_
    obtain rfl := hΦ
    replace o1 := o1.ext hE
    replace o3 := o3.ext hE
    refine st_g (b := false) hf rfl rfl rfl hb5 rfl (by decide) (r_not hf rfl) fun a hf => ?_
    refine s_ hf (r_pick (b := false) hf rfl hb5 rfl) fun a hf => ?_
    refine s_ hf (r_move hf rfl) fun a hf => ?_
    rcases of_ite hF with ⟨hb8, hF⟩ | ⟨hb8, hF⟩
    · refine st_no (b := true) hf rfl rfl rfl hb8 rfl (by decide) fun a hf => ?_
      refine st_no (b := true) hf rfl rfl rfl hb8 rfl (by decide) fun a hf => ?_
      refine st_no (b := true) hf rfl rfl rfl hb8 rfl (by decide) fun a hf => ?_
      refine st_no (b := true) hf rfl rfl rfl hb8 rfl (by decide) fun a hf => ?_
      refine s_ hf (r_pick (b := true) hf rfl hb8 rfl) fun a hf => ?_
      refine c_nil ⟨rfl, ?_⟩
      obtain rfl := Option.some.inj hF
      exact ⟨_, hw, hf.sub ⟨rfl, rfl, trivial⟩, o1⟩
    refine st_g (b := false) hf rfl rfl rfl hb8 rfl (by decide) (r_fa fa39_4 hf rfl) fun a hf => ?_
    refine st_g (b := false) hf rfl rfl rfl hb8 rfl (by decide) (r_load_cell ty37 hf rfl (o1.cl.at_ 4 _ rfl)) fun a hf => ?_
    refine st_g (b := false) hf rfl rfl rfl hb8 rfl (by decide) (r_len Try.underlying37 (h0.now hw) hf rfl) fun a hf => ?_
    refine st_g (b := false) hf rfl rfl rfl hb8 rfl (by decide) (r_gtr hf rfl rfl) fun a hf => ?_
    refine s_ hf (r_pick (b := false) hf rfl hb8 rfl) fun a hf => ?_
    refine c_nil ⟨rfl, ?_⟩
    obtain rfl := Option.some.inj hF
    exact ⟨_, hw, hf.sub ⟨rfl, rfl, trivial⟩, o1⟩
  rintro a w ⟨ρ, hw, hf, o1⟩
  have hF := hG1
  refine n_then ?_
  rcases of_ite hF with ⟨hb9, hF⟩ | ⟨hb9, hF⟩
  · refine c_ift hf rfl hb9 <| c_seq <| c_region ?_
    refine s_ hf (r_assign hf rfl) fun a hf => ?_
    refine c_nt <| c_retc ?_
    obtain rfl := Option.some.inj hF
    refine r_then <| c_ret hf (res_tmp Try.results84 hf rfl) ?_
    exact ⟨_, rfl, hw.below, rfl⟩
  refine c_iff hf rfl hb9 <| c_skip <| n_then <| c_seq <| c_seq <| c_region ?_
  refine s_ hf (r_fa fa39_4 hf rfl) fun a hf => ?_
  refine s_ hf (r_load_cell ty37 hf rfl (o1.cl.at_ 4 _ rfl)) fun a hf => ?_
  refine s_ hf (r_len Try.underlying37 (h0.now hw) hf rfl) fun a hf => ?_
  refine s_ hf (r_move hf rfl) fun a hf => ?_
  refine c_nt ?_
  obtain ⟨ol10, ho10, hG10⟩ := of_bind hF
  clear hF
  refine c_block (c_loop (id := 0) (fun s => impl_IsScheme_l10 a0 s) (fun (s11 : Int) a w => ∃ ρ, Wd w0 ρ w ∧ Fr 41 a [(1, .pointer (some ((⟨g1, 0, none⟩ : Addr).add 0))), (27, va0), (28, vI (a0.ps.length : Int)), (29, vI s11)] ∧ Va ρ w 1 g1 39 ([vI a0.p, vI a0.n, vI a0.m, vI a0.k, va0])) (fun (s11 : Int) a w => ∃ ρ, Wd w0 ρ w ∧ Fr 41 a []) ho10 ⟨_, hw, hf.sub ⟨rfl, rfl, rfl, rfl, trivial⟩, o1⟩ ?_ ?_)
  · rintro s11 lr a w ⟨ρ, hw, hf, o1⟩ hF
    replace hF : impl_IsScheme_l10 a0 s11 = some lr := hF
    unfold impl_IsScheme_l10 at hF
    refine c_seq <| c_region ?_
    refine s_ hf (r_lss hf rfl rfl) fun a hf => ?_
    refine c_nt <| c_seq ?_
    rcases of_ite hF with ⟨hb12, hF⟩ | ⟨hb12, hF⟩
    rotate_left
    · refine c_iff hf rfl hb12 <| c_exit <| x_then ?_
      obtain rfl := Option.some.inj hF
      exact Rnd.stops ⟨_, hw, hf.sub trivial⟩
    refine c_ift hf rfl hb12 <| c_skip <| n_then <| c_seq <| c_block <| c_seq <| c_region ?_
    obtain ⟨hc13, hF⟩ := of_guard hF
    obtain ⟨ad14, c14, he14, hl14⟩ := Ro.el cProd h0 zProd hc13.1 hc13.2
    refine s_ hf (r_idx Try.underlying37 sz82 hf rfl ⟨_, he14⟩ rfl hc13.1 hc13.2) fun a hf => ?_
    refine s_ hf (r_load_agg ty82 hf rfl (hl14.below hw.below) (cProd.len _)) fun a hf => ?_
    refine sx_ hf (r_alloc (cs := cProd.enc zProd) 5 ze82 rfl hw) fun a v w hf hΦ => ?_
    obtain ⟨g5, ρ, rfl, hw, hE, o5⟩ := hΦ
    replace o1 := o1.ext hE
    refine sk_ hf (r_store_w (cs' := cProd.enc (gl zProd a0.ps s11)) hw o5 (by decide) ty82 (cProd.len _) (cProd.len _) (cProd.one _) hf rfl rfl rfl) fun a w hf hΦ => ?_
    obtain ⟨hw, hA, o5⟩ := hΦ
    replace o1 := o1.adv hA (by decide)
    refine c_nt <| c_seq ?_
    obtain ⟨x15, hx16, hF⟩ := of_bind hF
    replace hf : Fr 41 a [(1, .pointer (some ((⟨g1, 0, none⟩ : Addr).add 0))), (4, .pointer (some ((⟨g5, 0, none⟩ : Addr).add 0))), (27, va0), (28, vI (a0.ps.length : Int)), (29, vI s11)] := hf.sub ⟨rfl, rfl, rfl, rfl, rfl, trivial⟩
    refine c_drawL (h := 5) mixed (by kernel_rfl) (by kernel_rfl) (fun ρ w => Va ρ w 1 g1 39 ([vI a0.p, vI a0.n, vI a0.m, vI a0.k, va0]) ∧ Va ρ w 5 g5 82 (cProd.enc (gl zProd a0.ps s11))) ?_ [fun ρ w v => .pointer (some ((⟨g1, 0, none⟩ : Addr).add (0 + 0))) = v, fun ρ w v => vI a0.p = v, fun ρ w v => .agg ([vI a0.p, vI a0.n, vI a0.m, vI a0.k, va0]).toArray = v, fun ρ w v => .agg (cVec3.enc x15).toArray = v, fun ρ w v => .agg (cProd.enc (gl zProd a0.ps s11)).toArray = v] ?_ hw ⟨o1, o5⟩ hf ?_ ?_
    · intro ρ w ρ' w' hE hG
      obtain ⟨o1, o5⟩ := hG
      exact ⟨o1.ext hE, o5.ext hE⟩
    · exact LastsL.cons (fun _ _ _ _ _ _ h => h) <| LastsL.cons (fun _ _ _ _ _ _ h => h) <| LastsL.cons (fun _ _ _ _ _ _ h => h) <| LastsL.cons (fun _ _ _ _ _ _ h => h) <| LastsL.cons (fun _ _ _ _ _ _ h => h) <| LastsL.nil
    · refine StepsB.cons ?_ <| StepsB.cons ?_ <| StepsB.cons ?_ <| StepsB.cons ?_ <| StepsB.cons ?_ <| StepsB.nil
      · intro ρ w a hw hG hf hd K hK
        obtain ⟨o1, o5⟩ := hG
        exact dv_ hK hw (wn rfl) (r_fa fa39_0 hf rfl) rfl
      · intro ρ w a hw hG hf hd K hK
        obtain ⟨o1, o5⟩ := hG
        obtain ⟨_, hf, rfl⟩ := got (hd 0 (by kernel_rfl)) hf
        exact dv_ hK hw (wn rfl) (r_load_cell ty2 hf rfl (o1.cl.at_ 0 _ rfl)) rfl
      · intro ρ w a hw hG hf hd K hK
        obtain ⟨o1, o5⟩ := hG
        exact dv_ hK hw (wn rfl) (r_load_agg ty39 hf rfl o1.cl rfl) rfl
      · intro ρ w a hw hG hf hd K hK
        obtain ⟨o1, o5⟩ := hG
        obtain ⟨_, hf, rfl⟩ := got (hd 2 (by kernel_rfl)) hf
        refine dc_ hK hw (wn rfl) (r_fn en130 hf rfl) (impl_placesOf_ok (a0 := a0) (h0.now hw) hx16) fun v w' hΦ => ?_
        obtain ⟨hb, hΦ⟩ := hΦ
        obtain rfl := hΦ
        have hE := Ext.new (ρ := ρ) 6 hb
        exact ⟨_, hw.new 6 hb, hE, rfl⟩
      · intro ρ w a hw hG hf hd K hK
        obtain ⟨o1, o5⟩ := hG
        exact dv_ hK hw (wn rfl) (r_load_agg ty82 hf rfl o5.cl (cProd.len _)) rfl
    intro ρ w a hw hG hf hd
    obtain ⟨o1, o5⟩ := hG
    obtain ⟨_, hf, rfl⟩ := got (hd 1 (by decide)) hf
    obtain ⟨_, hf, rfl⟩ := got (hd 3 (by decide)) hf
    obtain ⟨_, hf, rfl⟩ := got (hd 4 (by decide)) hf
    obtain ⟨x17, hx18, hF⟩ := of_bind hF
    refine st_fn 7 hw hf rfl rfl (by decide) (r_fn en129 hf rfl) (impl_isProduct_ok  hx18) fun a v w ρ hf hw hE hN hΦ => ?_
    obtain rfl := hΦ
    replace o1 := o1.ext hE
    replace o5 := o5.ext hE
    refine s_ hf (r_not hf rfl) fun a hf => ?_
    refine c_nt ?_
    rcases of_ite hF with ⟨hb19, hF⟩ | ⟨hb19, hF⟩
    rotate_left
    · refine c_iff hf rfl hb19 <| c_skip <| n_block <| n_then <| c_region ?_
      refine s_ hf (r_add hf rfl rfl) fun a hf => ?_
      refine s_ hf (r_move hf rfl) fun a hf => ?_
      refine c_nil ?_
      obtain rfl := Option.some.inj hF
      exact Rnd.goes ⟨_, hw, hf.sub ⟨rfl, rfl, rfl, rfl, trivial⟩, o1⟩
    refine c_ift hf rfl hb19 <| c_seq <| c_region ?_
    refine s_ hf (r_assign hf rfl) fun a hf => ?_
    refine c_nt <| c_retc ?_
    obtain rfl := Option.some.inj hF
    refine r_block <| r_then ?_
    refine Rnd.rets fun ho => ?_
    subst ho
    have hF := hG10
    dsimp only at hF
    obtain rfl := Option.some.inj hF
    refine r_block <| r_then <| c_ret hf (res_tmp Try.results84 hf rfl) ?_
    exact ⟨_, rfl, hw.below, rfl⟩
  rintro s11 a w hs ⟨ρ, hw, hf⟩
  subst hs
  have hF := hG10
  dsimp only at hF
  refine x_block <| n_then <| c_seq <| c_region ?_
  refine s_ hf (r_assign hf rfl) fun a hf => ?_
  refine c_nt <| c_retc ?_
  obtain rfl := Option.some.inj hF
  refine c_ret hf (res_tmp Try.results84 hf rfl) ?_
  exact ⟨_, rfl, hw.below, rfl⟩
/-! f114 -/
noncomputable def spec_l01Mod (a0 : Int) (a1 : Int) : Option Int :=
  if a0 ≠ 0 then (some ((w64 ((a1.tmod a0) + a0)).tmod a0)) else none
theorem spec_l01Mod_ok {w0 : World} {a0 : Int} {a1 : Int}   {r : Int} (hF : spec_l01Mod a0 a1 = some r) :
    Calls Try.prog 114 [vI a0, vI a1].toArray w0 fun e w => ∃ v, e = .returned v ∧ Below w0.heap.size w0 w ∧ .int .i64 r = v := by
  refine calls_of (k := 12) Try.func114 rfl rfl (Nat.le_of_ble_eq_true rfl) fun a hf => ?_
  replace hf : Fr 12 a [(0, vI a0), (1, vI a1)] := hf
  refine c_start fun w ρ hw => ?_
  unfold spec_l01Mod at hF
  refine c_seq <| c_region ?_
  refine s_ hf (r_assign hf rfl) fun a hf => ?_
  refine c_nt <| c_seq <| c_region ?_
  refine s_ hf (r_move hf rfl) fun a hf => ?_
  refine s_ hf (r_move hf rfl) fun a hf => ?_
  obtain ⟨hc1, hF⟩ := of_guard hF
  refine s_ hf (r_rem hf rfl rfl hc1) fun a hf => ?_
  refine s_ hf (r_move hf rfl) fun a hf => ?_
  refine s_ hf (r_add hf rfl rfl) fun a hf => ?_
  refine s_ hf (r_move hf rfl) fun a hf => ?_
  refine s_ hf (r_rem hf rfl rfl hc1) fun a hf => ?_
  refine s_ hf (r_assign hf rfl) fun a hf => ?_
  refine c_nt <| c_retc ?_
  obtain rfl := Option.some.inj hF
  refine c_ret hf (res_tmp Try.results114 hf rfl) ?_
  exact ⟨_, rfl, hw.below, rfl⟩
/-! f110 -/
noncomputable def impl_inverse_l1 (a0 : Int) (a1 : Int) (s2 : Int) : Option (LR Int Int) :=
  if a0 ≠ 0 then (if (decide (((w64 (s2 * a1)).tmod a0) = 1)) = true then (some (.ret s2)) else (some (.next (w64 (s2 + 1))))) else none
noncomputable def impl_inverse (a0 : Int) (a1 : Int) : Option Int :=
  (iter (fun s => impl_inverse_l1 a0 a1 s) 1).bind fun o => match o with | .stop _ => (none) | .ret r => some r | .next _ => none
theorem impl_inverse_ok {w0 : World} {a0 : Int} {a1 : Int}   {r : Int} (hF : impl_inverse a0 a1 = some r) :
    Calls Try.prog 110 [vI a0, vI a1].toArray w0 fun e w => ∃ v, e = .returned v ∧ Below w0.heap.size w0 w ∧ .int .i64 r = v := by
  refine calls_of (k := 15) Try.func110 rfl rfl (Nat.le_of_ble_eq_true rfl) fun a hf => ?_
  replace hf : Fr 15 a [(0, vI a0), (1, vI a1)] := hf
  refine c_start fun w ρ hw => ?_
  unfold impl_inverse at hF
  refine c_seq <| c_region ?_
  refine s_ hf (r_assign hf rfl) fun a hf => ?_
  refine c_nt <| c_seq <| c_region ?_
  refine s_ hf (r_assign hf rfl) fun a hf => ?_
  refine c_nt ?_
  obtain ⟨ol1, ho1, hG1⟩ := of_bind hF
  clear hF
  refine c_block (c_loop (id := 0) (fun s => impl_inverse_l1 a0 a1 s) (fun (s2 : Int) a w => ∃ ρ, Wd w0 ρ w ∧ Fr 15 a [(0, vI a0), (1, vI a1), (5, vI s2)]) (fun (s2 : Int) a w => ∃ ρ, Wd w0 ρ w ∧ Fr 15 a []) ho1 ⟨_, hw, hf.sub ⟨rfl, rfl, rfl, trivial⟩⟩ ?_ ?_)
  · rintro s2 lr a w ⟨ρ, hw, hf⟩ hF
    replace hF : impl_inverse_l1 a0 a1 s2 = some lr := hF
    unfold impl_inverse_l1 at hF
    refine c_seq <| c_block <| c_seq <| c_region ?_
    refine s_ hf (r_move hf rfl) fun a hf => ?_
    refine s_ hf (r_move hf rfl) fun a hf => ?_
    refine s_ hf (r_mul hf rfl rfl) fun a hf => ?_
    refine s_ hf (r_move hf rfl) fun a hf => ?_
    obtain ⟨hc3, hF⟩ := of_guard hF
    refine s_ hf (r_rem hf rfl rfl hc3) fun a hf => ?_
    refine s_ hf (r_eql hf rfl rfl) fun a hf => ?_
    refine c_nt ?_
    rcases of_ite hF with ⟨hb4, hF⟩ | ⟨hb4, hF⟩
    rotate_left
    · refine c_iff hf rfl hb4 <| c_skip <| n_block <| n_then <| c_region ?_
      refine s_ hf (r_move hf rfl) fun a hf => ?_
      refine s_ hf (r_add hf rfl rfl) fun a hf => ?_
      refine s_ hf (r_assign hf rfl) fun a hf => ?_
      refine c_nil ?_
      obtain rfl := Option.some.inj hF
      exact Rnd.goes ⟨_, hw, hf.sub ⟨rfl, rfl, rfl, trivial⟩⟩
    refine c_ift hf rfl hb4 <| c_seq <| c_region ?_
    refine s_ hf (r_move hf rfl) fun a hf => ?_
    refine s_ hf (r_assign hf rfl) fun a hf => ?_
    refine c_nt <| c_retc ?_
    obtain rfl := Option.some.inj hF
    refine r_block <| r_then ?_
    refine Rnd.rets fun ho => ?_
    subst ho
    have hF := hG1
    dsimp only at hF
    obtain rfl := Option.some.inj hF
    refine r_block <| c_ret hf (res_tmp Try.results110 hf rfl) ?_
    exact ⟨_, rfl, hw.below, rfl⟩
  rintro s a w hs _
  subst hs
  cases hG1
/-! f113 -/
noncomputable def spec_l01Inverse_l1 (a0 : Int) (a1 : Int) (s2 : Int) : Option (LR Int Int) :=
  if (decide (s2 < a0)) = true then ((spec_l01Mod a0 a1).bind fun x4 => if a0 ≠ 0 then (if (decide (((w64 (s2 * x4)).tmod a0) = 1)) = true then (some (.ret s2)) else (some (.next (w64 (s2 + 1))))) else none) else (some (.stop s2))
noncomputable def spec_l01Inverse (a0 : Int) (a1 : Int) : Option Int :=
  (iter (fun s => spec_l01Inverse_l1 a0 a1 s) 1).bind fun o => match o with | .stop s2 => (some (0)) | .ret r => some r | .next _ => none
theorem spec_l01Inverse_ok {w0 : World} {a0 : Int} {a1 : Int}   {r : Int} (hF : spec_l01Inverse a0 a1 = some r) :
    Calls Try.prog 113 [vI a0, vI a1].toArray w0 fun e w => ∃ v, e = .returned v ∧ Below w0.heap.size w0 w ∧ .int .i64 r = v := by
  refine calls_of (k := 20) Try.func113 rfl rfl (Nat.le_of_ble_eq_true rfl) fun a hf => ?_
  replace hf : Fr 20 a [(0, vI a0), (1, vI a1)] := hf
  refine c_start fun w ρ hw => ?_
  unfold spec_l01Inverse at hF
  refine c_seq <| c_region ?_
  refine s_ hf (r_assign hf rfl) fun a hf => ?_
  refine c_nt <| c_seq <| c_seq <| c_region ?_
  refine s_ hf (r_assign hf rfl) fun a hf => ?_
  refine c_nt ?_
  obtain ⟨ol1, ho1, hG1⟩ := of_bind hF
  clear hF
  refine c_block (c_loop (id := 0) (fun s => spec_l01Inverse_l1 a0 a1 s) (fun (s2 : Int) a w => ∃ ρ, Wd w0 ρ w ∧ Fr 20 a [(0, vI a0), (1, vI a1), (5, vI s2)]) (fun (s2 : Int) a w => ∃ ρ, Wd w0 ρ w ∧ Fr 20 a []) ho1 ⟨_, hw, hf.sub ⟨rfl, rfl, rfl, trivial⟩⟩ ?_ ?_)
  · rintro s2 lr a w ⟨ρ, hw, hf⟩ hF
    replace hF : spec_l01Inverse_l1 a0 a1 s2 = some lr := hF
    unfold spec_l01Inverse_l1 at hF
    refine c_seq <| c_seq <| c_region ?_
    refine s_ hf (r_move hf rfl) fun a hf => ?_
    refine s_ hf (r_move hf rfl) fun a hf => ?_
    refine s_ hf (r_lss hf rfl rfl) fun a hf => ?_
    refine c_nt ?_
    rcases of_ite hF with ⟨hb3, hF⟩ | ⟨hb3, hF⟩
    rotate_left
    · refine c_iff hf rfl hb3 <| c_exit <| x_then ?_
      obtain rfl := Option.some.inj hF
      exact Rnd.stops ⟨_, hw, hf.sub trivial⟩
    refine c_ift hf rfl hb3 <| c_skip <| n_then <| c_seq <| c_block <| c_seq <| c_region ?_
    refine s_ hf (r_move hf rfl) fun a hf => ?_
    refine s_ hf (r_move hf rfl) fun a hf => ?_
    refine s_ hf (r_move hf rfl) fun a hf => ?_
    obtain ⟨x4, hx5, hF⟩ := of_bind hF
    refine st_fn 1 hw hf rfl rfl (by decide) (r_fn en114 hf rfl) (spec_l01Mod_ok  hx5) fun a v w ρ hf hw hE hN hΦ => ?_
    obtain rfl := hΦ
    refine s_ hf (r_mul hf rfl rfl) fun a hf => ?_
    refine s_ hf (r_move hf rfl) fun a hf => ?_
    obtain ⟨hc6, hF⟩ := of_guard hF
    refine s_ hf (r_rem hf rfl rfl hc6) fun a hf => ?_
    refine s_ hf (r_eql hf rfl rfl) fun a hf => ?_
    refine c_nt ?_
    rcases of_ite hF with ⟨hb7, hF⟩ | ⟨hb7, hF⟩
    rotate_left
    · refine c_iff hf rfl hb7 <| c_skip <| n_block <| n_then <| c_region ?_
      refine s_ hf (r_move hf rfl) fun a hf => ?_
      refine s_ hf (r_add hf rfl rfl) fun a hf => ?_
      refine s_ hf (r_assign hf rfl) fun a hf => ?_
      refine c_nil ?_
      obtain rfl := Option.some.inj hF
      exact Rnd.goes ⟨_, hw, hf.sub ⟨rfl, rfl, rfl, trivial⟩⟩
    refine c_ift hf rfl hb7 <| c_seq <| c_region ?_
    refine s_ hf (r_move hf rfl) fun a hf => ?_
    refine s_ hf (r_assign hf rfl) fun a hf => ?_
    refine c_nt <| c_retc ?_
    obtain rfl := Option.some.inj hF
    refine r_block <| r_then ?_
    refine Rnd.rets fun ho => ?_
    subst ho
    have hF := hG1
    dsimp only at hF
    obtain rfl := Option.some.inj hF
    refine r_block <| r_then <| c_ret hf (res_tmp Try.results113 hf rfl) ?_
    exact ⟨_, rfl, hw.below, rfl⟩
  rintro s2 a w hs ⟨ρ, hw, hf⟩
  subst hs
  have hF := hG1
  dsimp only at hF
  refine x_block <| n_then <| c_seq <| c_region ?_
  refine s_ hf (r_assign hf rfl) fun a hf => ?_
  refine c_nt <| c_retc ?_
  obtain rfl := Option.some.inj hF
  refine c_ret hf (res_tmp Try.results113 hf rfl) ?_
  exact ⟨_, rfl, hw.below, rfl⟩
/-! f88 -/
noncomputable def laws_eqInt64S_l2 (a0 : List Int) (a1 : List Int) (s3 : Int) : Option (LR Int Bool) :=
  if (decide (s3 < (a0.length : Int))) = true then (if 0 ≤ s3 ∧ s3 < (a0.length : Int) then (if 0 ≤ s3 ∧ s3 < (a1.length : Int) then (if (decide ((gl 0 a0 s3) ≠ (gl 0 a1 s3))) = true then (some (.ret false)) else (some (.next (w64 (s3 + 1))))) else none) else none) else (some (.stop s3))
noncomputable def laws_eqInt64S (a0 : List Int) (a1 : List Int) : Option Bool :=
  if (decide ((a0.length : Int) ≠ (a1.length : Int))) = true then (some (false)) else ((iter (fun s => laws_eqInt64S_l2 a0 a1 s) 0).bind fun o => match o with | .stop s3 => (some (true)) | .ret r => some r | .next _ => none)
theorem laws_eqInt64S_ok {w0 : World} {a0 : List Int} {a1 : List Int} {va0 : Value} {va1 : Value} (h0 : Ro (kf fI64) w0 va0 a0) (h1 : Ro (kf fI64) w0 va1 a1) {r : Bool} (hF : laws_eqInt64S a0 a1 = some r) :
    Calls Try.prog 88 [va0, va1].toArray w0 fun e w => ∃ v, e = .returned v ∧ Below w0.heap.size w0 w ∧ .bool r = v := by
  refine calls_of (k := 26) Try.func88 rfl rfl (Nat.le_of_ble_eq_true rfl) fun a hf => ?_
  replace hf : Fr 26 a [(0, va0), (1, va1)] := hf
  refine c_start fun w ρ hw => ?_
  unfold laws_eqInt64S at hF
  refine c_seq <| c_region ?_
  refine s_ hf (r_assign hf rfl) fun a hf => ?_
  refine c_nt <| c_seq <| c_seq <| c_region ?_
  refine s_ hf (r_move hf rfl) fun a hf => ?_
  refine s_ hf (r_len Try.underlying36 (h0.now hw) hf rfl) fun a hf => ?_
  refine s_ hf (r_move hf rfl) fun a hf => ?_
  refine s_ hf (r_len Try.underlying36 (h1.now hw) hf rfl) fun a hf => ?_
  refine s_ hf (r_neq hf rfl rfl) fun a hf => ?_
  refine c_nt ?_
  rcases of_ite hF with ⟨hb1, hF⟩ | ⟨hb1, hF⟩
  · refine c_ift hf rfl hb1 <| c_seq <| c_region ?_
    refine s_ hf (r_assign hf rfl) fun a hf => ?_
    refine c_nt <| c_retc ?_
    obtain rfl := Option.some.inj hF
    refine r_then <| c_ret hf (res_tmp Try.results88 hf rfl) ?_
    exact ⟨_, rfl, hw.below, rfl⟩
  refine c_iff hf rfl hb1 <| c_skip <| n_then <| c_seq <| c_seq <| c_region ?_
  refine s_ hf (r_assign hf rfl) fun a hf => ?_
  refine c_nt ?_
  obtain ⟨ol2, ho2, hG2⟩ := of_bind hF
  clear hF
  refine c_block (c_loop (id := 0) (fun s => laws_eqInt64S_l2 a0 a1 s) (fun (s3 : Int) a w => ∃ ρ, Wd w0 ρ w ∧ Fr 26 a [(0, va0), (1, va1), (5, vI s3)]) (fun (s3 : Int) a w => ∃ ρ, Wd w0 ρ w ∧ Fr 26 a []) ho2 ⟨_, hw, hf.sub ⟨rfl, rfl, rfl, trivial⟩⟩ ?_ ?_)
  · rintro s3 lr a w ⟨ρ, hw, hf⟩ hF
    replace hF : laws_eqInt64S_l2 a0 a1 s3 = some lr := hF
    unfold laws_eqInt64S_l2 at hF
    refine c_seq <| c_seq <| c_region ?_
    refine s_ hf (r_move hf rfl) fun a hf => ?_
    refine s_ hf (r_move hf rfl) fun a hf => ?_
    refine s_ hf (r_len Try.underlying36 (h0.now hw) hf rfl) fun a hf => ?_
    refine s_ hf (r_lss hf rfl rfl) fun a hf => ?_
    refine c_nt ?_
    rcases of_ite hF with ⟨hb4, hF⟩ | ⟨hb4, hF⟩
    rotate_left
    · refine c_iff hf rfl hb4 <| c_exit <| x_then ?_
      obtain rfl := Option.some.inj hF
      exact Rnd.stops ⟨_, hw, hf.sub trivial⟩
    refine c_ift hf rfl hb4 <| c_skip <| n_then <| c_seq <| c_block <| c_seq ?_
    obtain ⟨hc5, hF⟩ := of_guard hF
    obtain ⟨ad6, c6, he6, hl6⟩ := Ro.el fI64 h0 0 hc5.1 hc5.2
    obtain ⟨hc7, hF⟩ := of_guard hF
    obtain ⟨ad8, c8, he8, hl8⟩ := Ro.el fI64 h1 0 hc7.1 hc7.2
    replace hf : Fr 26 a [(0, va0), (1, va1), (5, vI s3)] := hf.sub ⟨rfl, rfl, rfl, trivial⟩
    refine c_drawL (h := 8) mixed (by kernel_rfl) (by kernel_rfl) (fun ρ w => True) ?_ [fun ρ w v => va0 = v, fun ρ w v => vI s3 = v, fun ρ w v => .pointer (some (ad6.add (s3.toNat * 1))) = v, fun ρ w v => vI (gl 0 a0 s3) = v, fun ρ w v => va1 = v, fun ρ w v => vI s3 = v, fun ρ w v => .pointer (some (ad8.add (s3.toNat * 1))) = v, fun ρ w v => vI (gl 0 a1 s3) = v] ?_ hw trivial hf ?_ ?_
    · intro ρ w ρ' w' hE hG
      skip
      exact trivial
    · exact LastsL.cons (fun _ _ _ _ _ _ h => h) <| LastsL.cons (fun _ _ _ _ _ _ h => h) <| LastsL.cons (fun _ _ _ _ _ _ h => h) <| LastsL.cons (fun _ _ _ _ _ _ h => h) <| LastsL.cons (fun _ _ _ _ _ _ h => h) <| LastsL.cons (fun _ _ _ _ _ _ h => h) <| LastsL.cons (fun _ _ _ _ _ _ h => h) <| LastsL.cons (fun _ _ _ _ _ _ h => h) <| LastsL.nil
    · refine StepsB.cons ?_ <| StepsB.cons ?_ <| StepsB.cons ?_ <| StepsB.cons ?_ <| StepsB.cons ?_ <| StepsB.cons ?_ <| StepsB.cons ?_ <| StepsB.cons ?_ <| StepsB.nil
      · intro ρ w a hw hG hf hd K hK
        exact dv_ hK hw (wn rfl) (r_move hf rfl) rfl
      · intro ρ w a hw hG hf hd K hK
        exact dv_ hK hw (wn rfl) (r_move hf rfl) rfl
      · intro ρ w a hw hG hf hd K hK
        obtain ⟨_, hf, rfl⟩ := got (hd 0 (by kernel_rfl)) hf
        obtain ⟨_, hf, rfl⟩ := got (hd 1 (by kernel_rfl)) hf
        exact dv_ hK hw (wn rfl) (r_idx Try.underlying36 sz2 hf rfl ⟨_, he6⟩ rfl hc5.1 hc5.2) rfl
      · intro ρ w a hw hG hf hd K hK
        obtain ⟨_, hf, rfl⟩ := got (hd 2 (by kernel_rfl)) hf
        exact dv_ hK hw (wn rfl) (r_load_cell ty2 hf rfl (hl6.below hw.below)) rfl
      · intro ρ w a hw hG hf hd K hK
        exact dv_ hK hw (wn rfl) (r_move hf rfl) rfl
      · intro ρ w a hw hG hf hd K hK
        exact dv_ hK hw (wn rfl) (r_move hf rfl) rfl
      · intro ρ w a hw hG hf hd K hK
        obtain ⟨_, hf, rfl⟩ := got (hd 4 (by kernel_rfl)) hf
        obtain ⟨_, hf, rfl⟩ := got (hd 5 (by kernel_rfl)) hf
        exact dv_ hK hw (wn rfl) (r_idx Try.underlying36 sz2 hf rfl ⟨_, he8⟩ rfl hc7.1 hc7.2) rfl
      · intro ρ w a hw hG hf hd K hK
        obtain ⟨_, hf, rfl⟩ := got (hd 6 (by kernel_rfl)) hf
        exact dv_ hK hw (wn rfl) (r_load_cell ty2 hf rfl (hl8.below hw.below)) rfl
    intro ρ w a hw hG hf hd
    obtain ⟨_, hf, rfl⟩ := got (hd 3 (by decide)) hf
    obtain ⟨_, hf, rfl⟩ := got (hd 7 (by decide)) hf
    refine s_ hf (r_neq hf rfl rfl) fun a hf => ?_
    refine c_nt ?_
    rcases of_ite hF with ⟨hb9, hF⟩ | ⟨hb9, hF⟩
    rotate_left
    · refine c_iff hf rfl hb9 <| c_skip <| n_block <| n_then <| c_region ?_
      refine s_ hf (r_move hf rfl) fun a hf => ?_
      refine s_ hf (r_add hf rfl rfl) fun a hf => ?_
      refine s_ hf (r_assign hf rfl) fun a hf => ?_
      refine c_nil ?_
      obtain rfl := Option.some.inj hF
      exact Rnd.goes ⟨_, hw, hf.sub ⟨rfl, rfl, rfl, trivial⟩⟩
    refine c_ift hf rfl hb9 <| c_seq <| c_region ?_
    refine s_ hf (r_assign hf rfl) fun a hf => ?_
    refine c_nt <| c_retc ?_
    obtain rfl := Option.some.inj hF
    refine r_block <| r_then ?_
    refine Rnd.rets fun ho => ?_
    subst ho
    have hF := hG2
    dsimp only at hF
    obtain rfl := Option.some.inj hF
    refine r_block <| r_then <| c_ret hf (res_tmp Try.results88 hf rfl) ?_
    exact ⟨_, rfl, hw.below, rfl⟩
  rintro s3 a w hs ⟨ρ, hw, hf⟩
  subst hs
  have hF := hG2
  dsimp only at hF
  refine x_block <| n_then <| c_seq <| c_region ?_
  refine s_ hf (r_assign hf rfl) fun a hf => ?_
  refine c_nt <| c_retc ?_
  obtain rfl := Option.some.inj hF
  refine c_ret hf (res_tmp Try.results88 hf rfl) ?_
  exact ⟨_, rfl, hw.below, rfl⟩
/-! f91 -/
noncomputable def laws_markInt64S_l1  (s2 : Int) (s3 : Int) (s4 : List Int) : Option (LR (Int × Int × (List Int)) (Int × (List Int))) :=
  if (decide (s3 < (s4.length : Int))) = true then (if 0 ≤ s3 ∧ s3 < (s4.length : Int) then (some (.next (w64 (s2 + 1), w64 (s3 + 1), (s4.set s3.toNat s2)))) else none) else (some (.stop (s2, s3, s4)))
noncomputable def laws_markInt64S (a0 : List Int) (a1 : Int) : Option (Int × (List Int)) :=
  (iter (fun s => laws_markInt64S_l1  s.1 s.2.1 s.2.2) (a1, 0, a0)).bind fun o => match o with | .stop (s2, s3, s4) => (some ((s2, s4))) | .ret r => some r | .next _ => none
theorem laws_markInt64S_ok {w0 ws : World} {ρ0 : Nat → Nat} {i : Nat} (hi : i ≠ 0) (hW : Wd w0 ρ0 ws) {a0 : List Int} {a1 : Int} {va0 : Value} (h0 : Ow (kf fI64) 2 ρ0 ws w0.heap.size i va0 a0) {r : Int × (List Int)} (hF : laws_markInt64S a0 a1 = some r) :
    Calls Try.prog 91 [va0, vI a1].toArray ws fun e w => ∃ v, e = .returned v ∧ ∃ ρ', Wd w0 ρ' w ∧ Adv i ρ0 ws ρ' w ∧ .int .i64 r.1 = v ∧ Ow (kf fI64) 2 ρ' w w0.heap.size i va0 r.2 := by
  refine calls_of (k := 19) Try.func91 rfl rfl (Nat.le_of_ble_eq_true rfl) fun a hf => ?_
  replace hf : Fr 19 a [(0, va0), (1, vI a1)] := hf
  refine c_startm hi hW h0 fun w ρ hw oA o1 => ?_
  unfold laws_markInt64S at hF
  refine c_seq <| c_region ?_
  refine s_ hf (r_assign hf rfl) fun a hf => ?_
  refine c_nt <| c_seq <| c_seq <| c_region ?_
  refine s_ hf (r_assign hf rfl) fun a hf => ?_
  refine c_nt ?_
  obtain ⟨ol1, ho1, hG1⟩ := of_bind hF
  clear hF
  refine c_block (c_loop (id := 0) (fun s => laws_markInt64S_l1  s.1 s.2.1 s.2.2) (fun (s : Int × Int × (List Int)) a w => match s with | (s2, s3, s4) => ∃ ρ, Wd w0 ρ w ∧ Fr 19 a [(0, va0), (1, vI s2), (5, vI s3)] ∧ Old (oneOf ρ0 i) ws ρ w ∧ O2 ρ w w0 1 va0 s4) (fun (s : Int × Int × (List Int)) a w => match s with | (s2, s3, s4) => ∃ ρ, Wd w0 ρ w ∧ Fr 19 a [(1, vI s2)] ∧ Old (oneOf ρ0 i) ws ρ w ∧ O2 ρ w w0 1 va0 s4) ho1 ⟨_, hw, hf.sub ⟨rfl, rfl, rfl, trivial⟩, oA, o1⟩ ?_ ?_)
  · rintro ⟨s2, s3, s4⟩ lr a w ⟨ρ, hw, hf, oA, o1⟩ hF
    replace hF : laws_markInt64S_l1  s2 s3 s4 = some lr := hF
    unfold laws_markInt64S_l1 at hF
    refine c_seq <| c_seq <| c_region ?_
    refine s_ hf (r_move hf rfl) fun a hf => ?_
    refine s_ hf (r_move hf rfl) fun a hf => ?_
    refine s_ hf (r_len Try.underlying36 o1.ro hf rfl) fun a hf => ?_
    refine s_ hf (r_lss hf rfl rfl) fun a hf => ?_
    refine c_nt ?_
    rcases of_ite hF with ⟨hb5, hF⟩ | ⟨hb5, hF⟩
    rotate_left
    · refine c_iff hf rfl hb5 <| c_exit <| x_then ?_
      obtain rfl := Option.some.inj hF
      exact Rnd.stops ⟨_, hw, hf.sub ⟨rfl, trivial⟩, oA, o1⟩
    refine c_ift hf rfl hb5 <| c_skip <| n_then <| c_seq <| c_block <| c_seq <| c_region ?_
    refine s_ hf (r_move hf rfl) fun a hf => ?_
    refine s_ hf (r_move hf rfl) fun a hf => ?_
    refine s_ hf (r_move hf rfl) fun a hf => ?_
    obtain ⟨hc6, hF⟩ := of_guard hF
    obtain ⟨ad7, hl7⟩ := Ow.ce (d := fI64) o1 0 hc6.1 hc6.2
    refine s_ hf (r_idx Try.underlying36 sz2 hf rfl hl7.at_ rfl hc6.1 hc6.2) fun a hf => ?_
    refine sk_ hf (r_store_ec (b := s2) 0 hw (by decide) o1 hc6.1 hc6.2 (Lens.id _) hl7.at_ ty2 (by first | rfl | exact Nat.add_assoc _ _ _ | (simp only [Nat.add_assoc]; rfl)) hf rfl rfl rfl) fun a w hf hΦ => ?_
    obtain ⟨hw, hA, o1⟩ := hΦ
    replace oA := oA.adv hA (by decide)
    refine c_nt <| c_region ?_
    refine s_ hf (r_move hf rfl) fun a hf => ?_
    refine s_ hf (r_add hf rfl rfl) fun a hf => ?_
    refine s_ hf (r_assign hf rfl) fun a hf => ?_
    refine c_nil <| n_block <| n_then <| c_region ?_
    refine s_ hf (r_move hf rfl) fun a hf => ?_
    refine s_ hf (r_add hf rfl rfl) fun a hf => ?_
    refine s_ hf (r_assign hf rfl) fun a hf => ?_
    refine c_nil ?_
    obtain rfl := Option.some.inj hF
    exact Rnd.goes ⟨_, hw, hf.sub ⟨rfl, rfl, rfl, trivial⟩, oA, o1⟩
  rintro ⟨s2, s3, s4⟩ a w hs ⟨ρ, hw, hf, oA, o1⟩
  subst hs
  have hF := hG1
  dsimp only at hF
  refine x_block <| n_then <| c_seq <| c_region ?_
  refine s_ hf (r_move hf rfl) fun a hf => ?_
  refine s_ hf (r_assign hf rfl) fun a hf => ?_
  refine c_nt <| c_retc ?_
  obtain rfl := Option.some.inj hF
  refine c_ret hf (res_tmp Try.results91 hf rfl) ?_
  exact ⟨_, rfl, _, m_wd hW hw oA, m_adv oA, rfl, m_ow oA o1⟩
/-! f92 -/
noncomputable def laws_heldInt64S_l1 (a0 : List Int) (s2 : Int) (s3 : Int) : Option (LR (Int × Int) Int) :=
  if (decide (s3 < (a0.length : Int))) = true then (if 0 ≤ s3 ∧ s3 < (a0.length : Int) then (if (decide ((gl 0 a0 s3) ≠ s2)) = true then (some (.ret (-1))) else (some (.next (w64 (s2 + 1), w64 (s3 + 1))))) else none) else (some (.stop (s2, s3)))
noncomputable def laws_heldInt64S (a0 : List Int) (a1 : Int) : Option Int :=
  (iter (fun s => laws_heldInt64S_l1 a0 s.1 s.2) (a1, 0)).bind fun o => match o with | .stop (s2, s3) => (some (s2)) | .ret r => some r | .next _ => none
theorem laws_heldInt64S_ok {w0 : World} {a0 : List Int} {a1 : Int} {va0 : Value} (h0 : Ro (kf fI64) w0 va0 a0) {r : Int} (hF : laws_heldInt64S a0 a1 = some r) :
    Calls Try.prog 92 [va0, vI a1].toArray w0 fun e w => ∃ v, e = .returned v ∧ Below w0.heap.size w0 w ∧ .int .i64 r = v := by
  refine calls_of (k := 21) Try.func92 rfl rfl (Nat.le_of_ble_eq_true rfl) fun a hf => ?_
  replace hf : Fr 21 a [(0, va0), (1, vI a1)] := hf
  refine c_start fun w ρ hw => ?_
  unfold laws_heldInt64S at hF
  refine c_seq <| c_region ?_
  refine s_ hf (r_assign hf rfl) fun a hf => ?_
  refine c_nt <| c_seq <| c_seq <| c_region ?_
  refine s_ hf (r_assign hf rfl) fun a hf => ?_
  refine c_nt ?_
  obtain ⟨ol1, ho1, hG1⟩ := of_bind hF
  clear hF
  refine c_block (c_loop (id := 0) (fun s => laws_heldInt64S_l1 a0 s.1 s.2) (fun (s : Int × Int) a w => match s with | (s2, s3) => ∃ ρ, Wd w0 ρ w ∧ Fr 21 a [(0, va0), (1, vI s2), (5, vI s3)]) (fun (s : Int × Int) a w => match s with | (s2, s3) => ∃ ρ, Wd w0 ρ w ∧ Fr 21 a [(1, vI s2)]) ho1 ⟨_, hw, hf.sub ⟨rfl, rfl, rfl, trivial⟩⟩ ?_ ?_)
  · rintro ⟨s2, s3⟩ lr a w ⟨ρ, hw, hf⟩ hF
    replace hF : laws_heldInt64S_l1 a0 s2 s3 = some lr := hF
    unfold laws_heldInt64S_l1 at hF
    refine c_seq <| c_seq <| c_region ?_
    refine s_ hf (r_move hf rfl) fun a hf => ?_
    refine s_ hf (r_move hf rfl) fun a hf => ?_
    refine s_ hf (r_len Try.underlying36 (h0.now hw) hf rfl) fun a hf => ?_
    refine s_ hf (r_lss hf rfl rfl) fun a hf => ?_
    refine c_nt ?_
    rcases of_ite hF with ⟨hb4, hF⟩ | ⟨hb4, hF⟩
    rotate_left
    · refine c_iff hf rfl hb4 <| c_exit <| x_then ?_
      obtain rfl := Option.some.inj hF
      exact Rnd.stops ⟨_, hw, hf.sub ⟨rfl, trivial⟩⟩
    refine c_ift hf rfl hb4 <| c_skip <| n_then <| c_seq <| c_block <| c_seq <| c_seq <| c_region ?_
    refine s_ hf (r_move hf rfl) fun a hf => ?_
    refine s_ hf (r_move hf rfl) fun a hf => ?_
    obtain ⟨hc5, hF⟩ := of_guard hF
    obtain ⟨ad6, c6, he6, hl6⟩ := Ro.el fI64 h0 0 hc5.1 hc5.2
    refine s_ hf (r_idx Try.underlying36 sz2 hf rfl ⟨_, he6⟩ rfl hc5.1 hc5.2) fun a hf => ?_
    refine s_ hf (r_load_cell ty2 hf rfl (hl6.below hw.below)) fun a hf => ?_
    refine s_ hf (r_move hf rfl) fun a hf => ?_
    refine s_ hf (r_neq hf rfl rfl) fun a hf => ?_
    refine c_nt ?_
    rcases of_ite hF with ⟨hb7, hF⟩ | ⟨hb7, hF⟩
    · refine c_ift hf rfl hb7 <| c_seq <| c_region ?_
      refine s_ hf (r_assign hf rfl) fun a hf => ?_
      refine c_nt <| c_retc ?_
      obtain rfl := Option.some.inj hF
      refine r_then <| r_block <| r_then ?_
      refine Rnd.rets fun ho => ?_
      subst ho
      have hF := hG1
      dsimp only at hF
      obtain rfl := Option.some.inj hF
      refine r_block <| r_then <| c_ret hf (res_tmp Try.results92 hf rfl) ?_
      exact ⟨_, rfl, hw.below, rfl⟩
    refine c_iff hf rfl hb7 <| c_skip <| n_then <| c_region ?_
    refine s_ hf (r_move hf rfl) fun a hf => ?_
    refine s_ hf (r_add hf rfl rfl) fun a hf => ?_
    refine s_ hf (r_assign hf rfl) fun a hf => ?_
    refine c_nil <| n_block <| n_then <| c_region ?_
    refine s_ hf (r_move hf rfl) fun a hf => ?_
    refine s_ hf (r_add hf rfl rfl) fun a hf => ?_
    refine s_ hf (r_assign hf rfl) fun a hf => ?_
    refine c_nil ?_
    obtain rfl := Option.some.inj hF
    exact Rnd.goes ⟨_, hw, hf.sub ⟨rfl, rfl, rfl, trivial⟩⟩
  rintro ⟨s2, s3⟩ a w hs ⟨ρ, hw, hf⟩
  subst hs
  have hF := hG1
  dsimp only at hF
  refine x_block <| n_then <| c_seq <| c_region ?_
  refine s_ hf (r_move hf rfl) fun a hf => ?_
  refine s_ hf (r_assign hf rfl) fun a hf => ?_
  refine c_nt <| c_retc ?_
  obtain rfl := Option.some.inj hF
  refine c_ret hf (res_tmp Try.results92 hf rfl) ?_
  exact ⟨_, rfl, hw.below, rfl⟩
/-! f95 -/
noncomputable def laws_toInt64S_l2 (a0 : List Int) (s3 : Int) (s4 : List Int) : Option (LR (Int × (List Int)) (List Int)) :=
  if (decide (s3 < (a0.length : Int))) = true then (if 0 ≤ s3 ∧ s3 < (a0.length : Int) then (if 0 ≤ s3 ∧ s3 < (s4.length : Int) then (some (.next (w64 (s3 + 1), (s4.set s3.toNat (gl 0 a0 s3))))) else none) else none) else (some (.stop (s3, s4)))
noncomputable def laws_toInt64S (a0 : List Int) : Option (List Int) :=
  if 0 ≤ (a0.length : Int) ∧ (a0.length : Int) * 8 ≤ 281474976710656 then ((iter (fun s => laws_toInt64S_l2 a0 s.1 s.2) (0, (List.replicate (a0.length : Int).toNat (0 : Int)))).bind fun o => match o with | .stop (s3, s4) => (some (s4)) | .ret r => some r | .next _ => none) else none
theorem laws_toInt64S_ok {w0 : World} {a0 : List Int} {va0 : Value} (h0 : Ro (kf fI64) w0 va0 a0) {r : List Int} (hF : laws_toInt64S a0 = some r) :
    Calls Try.prog 95 [va0].toArray w0 fun e w => ∃ v, e = .returned v ∧ Below w0.heap.size w0 w ∧ ∃ u0, u0 = v ∧ Fresh (kf fI64) 2 w0 w u0 r := by
  refine calls_of (k := 22) Try.func95 rfl rfl (Nat.le_of_ble_eq_true rfl) fun a hf => ?_
  replace hf : Fr 22 a [(0, va0)] := hf
  refine c_start fun w ρ hw => ?_
  unfold laws_toInt64S at hF
  refine c_seq <| c_region ?_
  have o1 : Ow (kf fI64) 2 ρ w w0.heap.size 1 (.slice none 0 0) [] := Ow.nil _ _ _ _ _ _
  refine s_ hf (r_assign hf rfl) fun a hf => ?_
  refine c_nt <| c_seq <| c_region ?_
  refine s_ hf (r_move hf rfl) fun a hf => ?_
  refine s_ hf (r_len Try.underlying36 (h0.now hw) hf rfl) fun a hf => ?_
  obtain ⟨hc1, hF⟩ := of_guard hF
  refine sx_ hf (r_make (d := fI64) (z0 := 0) 2 Try.underlying36 el2 rfl hw hf rfl hc1.1 (mk_le hc1.1 hc1.2)) fun a v2 w hf hΦ => ?_
  obtain ⟨ρ, hw, hE, o2⟩ := hΦ
  replace o1 := o1.ext hE
  refine s_ hf (r_assign hf rfl) fun a hf => ?_
  refine c_nt <| c_seq <| c_seq <| c_region ?_
  refine s_ hf (r_assign hf rfl) fun a hf => ?_
  refine c_nt ?_
  obtain ⟨ol2, ho2, hG2⟩ := of_bind hF
  clear hF
  refine c_block (c_loop (id := 0) (fun s => laws_toInt64S_l2 a0 s.1 s.2) (fun (s : Int × (List Int)) a w => match s with | (s3, s4) => ∃ ρ, Wd w0 ρ w ∧ Fr 22 a [(0, va0), (3, v2), (4, vI s3)] ∧ O2 ρ w w0 2 v2 s4) (fun (s : Int × (List Int)) a w => match s with | (s3, s4) => ∃ ρ, Wd w0 ρ w ∧ Fr 22 a [(3, v2)] ∧ O2 ρ w w0 2 v2 s4) ho2 ⟨_, hw, hf.sub ⟨rfl, rfl, rfl, trivial⟩, o2⟩ ?_ ?_)
  · rintro ⟨s3, s4⟩ lr a w ⟨ρ, hw, hf, o2⟩ hF
    replace hF : laws_toInt64S_l2 a0 s3 s4 = some lr := hF
    unfold laws_toInt64S_l2 at hF
    refine c_seq <| c_seq <| c_region ?_
    refine s_ hf (r_move hf rfl) fun a hf => ?_
    refine s_ hf (r_move hf rfl) fun a hf => ?_
    refine s_ hf (r_len Try.underlying36 (h0.now hw) hf rfl) fun a hf => ?_
    refine s_ hf (r_lss hf rfl rfl) fun a hf => ?_
    refine c_nt ?_
    rcases of_ite hF with ⟨hb5, hF⟩ | ⟨hb5, hF⟩
    rotate_left
    · refine c_iff hf rfl hb5 <| c_exit <| x_then ?_
      obtain rfl := Option.some.inj hF
      exact Rnd.stops ⟨_, hw, hf.sub ⟨rfl, trivial⟩, o2⟩
    refine c_ift hf rfl hb5 <| c_skip <| n_then <| c_seq <| c_block <| c_region ?_
    refine s_ hf (r_move hf rfl) fun a hf => ?_
    refine s_ hf (r_move hf rfl) fun a hf => ?_
    refine s_ hf (r_move hf rfl) fun a hf => ?_
    refine s_ hf (r_move hf rfl) fun a hf => ?_
    obtain ⟨hc6, hF⟩ := of_guard hF
    obtain ⟨ad7, c7, he7, hl7⟩ := Ro.el fI64 h0 0 hc6.1 hc6.2
    refine s_ hf (r_idx Try.underlying36 sz2 hf rfl ⟨_, he7⟩ rfl hc6.1 hc6.2) fun a hf => ?_
    refine s_ hf (r_load_cell ty2 hf rfl (hl7.below hw.below)) fun a hf => ?_
    obtain ⟨hc8, hF⟩ := of_guard hF
    obtain ⟨ad9, hl9⟩ := Ow.ce (d := fI64) o2 0 hc8.1 hc8.2
    refine s_ hf (r_idx Try.underlying36 sz2 hf rfl hl9.at_ rfl hc8.1 hc8.2) fun a hf => ?_
    refine sk_ hf (r_store_ec (b := gl 0 a0 s3) 0 hw (by decide) o2 hc8.1 hc8.2 (Lens.id _) hl9.at_ ty2 (by first | rfl | exact Nat.add_assoc _ _ _ | (simp only [Nat.add_assoc]; rfl)) hf rfl rfl rfl) fun a w hf hΦ => ?_
    obtain ⟨hw, hA, o2⟩ := hΦ
    refine c_nil <| n_block <| n_then <| c_region ?_
    refine s_ hf (r_move hf rfl) fun a hf => ?_
    refine s_ hf (r_add hf rfl rfl) fun a hf => ?_
    refine s_ hf (r_assign hf rfl) fun a hf => ?_
    refine c_nil ?_
    obtain rfl := Option.some.inj hF
    exact Rnd.goes ⟨_, hw, hf.sub ⟨rfl, rfl, rfl, trivial⟩, o2⟩
  rintro ⟨s3, s4⟩ a w hs ⟨ρ, hw, hf, o2⟩
  subst hs
  have hF := hG2
  dsimp only at hF
  refine x_block <| n_then <| c_seq <| c_region ?_
  refine s_ hf (r_move hf rfl) fun a hf => ?_
  refine s_ hf (r_assign hf rfl) fun a hf => ?_
  refine c_nt <| c_retc ?_
  obtain rfl := Option.some.inj hF
  refine c_ret hf (res_tmp Try.results95 hf rfl) ?_
  exact ⟨_, rfl, hw.below, ⟨_, rfl, o2.out⟩⟩
/-! f111 -/
noncomputable def slices_Clone_111 (a0 : List Int) : Option (List Int) :=
  if (([] : List Int).length + a0.length) * 8 ≤ 140737488355328 then (some ((([] : List Int) ++ a0))) else none
theorem slices_Clone_111_ok {w0 : World} {a0 : List Int} {va0 : Value} (h0 : Ro (kf fI64) w0 va0 a0) {r : List Int} (hF : slices_Clone_111 a0 = some r) :
    Calls Try.prog 111 [va0].toArray w0 fun e w => ∃ v, e = .returned v ∧ Below w0.heap.size w0 w ∧ ∃ u0, u0 = v ∧ Fresh (kf fI64) 2 w0 w u0 r := by
  refine calls_of (k := 8) Try.func111 rfl rfl (Nat.le_of_ble_eq_true rfl) fun a hf => ?_
  replace hf : Fr 8 a [(0, va0)] := hf
  refine c_start fun w ρ hw => ?_
  unfold slices_Clone_111 at hF
  refine c_seq <| c_region ?_
  have o1 : Ow (kf fI64) 2 ρ w w0.heap.size 1 (.slice none 0 0) [] := Ow.nil _ _ _ _ _ _
  refine s_ hf (r_assign hf rfl) fun a hf => ?_
  refine c_nt <| c_seq <| c_seq <| c_region ?_
  refine s_ hf (r_move hf rfl) fun a hf => ?_
  rcases Ro.nil_or (h0.now hw) with hn1 | hn1
  · replace hF := (show (some (([] : List Int))) = (if (([] : List Int).length + a0.length) * 8 ≤ 140737488355328 then (some ((([] : List Int) ++ a0))) else none) from by simp [hn1.2]).trans hF
    refine s_ hf (r_isnil hf rfl hn1.1 rfl Try.underlying36) fun a hf => ?_
    refine c_nt <| c_true hf rfl <| c_seq <| c_region ?_
    have o2 : Ow (kf fI64) 2 ρ w w0.heap.size 2 (.slice none 0 0) [] := Ow.nil _ _ _ _ _ _
    refine s_ hf (r_assign hf rfl) fun a hf => ?_
    refine c_nt <| c_retc ?_
    obtain rfl := Option.some.inj hF
    refine r_then <| c_ret hf (res_tmp Try.results111 hf rfl) ?_
    exact ⟨_, rfl, hw.below, ⟨_, rfl, o2.out⟩⟩
  · refine s_ hf (r_nonil hf rfl hn1 rfl Try.underlying36) fun a hf => ?_
    refine c_nt <| c_false hf rfl <| c_skip <| n_then <| c_seq <| c_region ?_
    refine sx_ hf (r_lit (d := fI64) (xs := ([] : List Int)) (vs := []) 3 Try.underlying36 el2 (Nat.le_of_ble_eq_true rfl) (Nat.le_of_ble_eq_true rfl) hw hf rfl rfl rfl) fun a v3 w hf hΦ => ?_
    obtain ⟨ρ, hw, hE, o3⟩ := hΦ
    replace o1 := o1.ext hE
    refine s_ hf (r_move hf rfl) fun a hf => ?_
    obtain ⟨hc2, hF⟩ := of_guard hF
    refine sx_ hf (r_append Try.underlying36 el2 hw (by decide) o3 (h0.now hw) hc2 hf rfl rfl) fun a va3 w hf hΦ => ?_
    obtain ⟨ρ, hw, hA, o3⟩ := hΦ
    replace o1 := o1.adv hA (by decide)
    refine s_ hf (r_assign hf rfl) fun a hf => ?_
    refine c_nt <| c_retc ?_
    obtain rfl := Option.some.inj hF
    refine c_ret hf (res_tmp Try.results111 hf rfl) ?_
    exact ⟨_, rfl, hw.below, ⟨_, rfl, o3.out⟩⟩
/-! f164 -/
noncomputable def impl_parted_l1 (a0 : List Int) (a1 : Int) (s2 : Int) (s3 : List (List Int)) : Option (LR (Int × (List (List Int))) (List (List Int))) :=
  if (decide (s2 < (a0.length : Int))) = true then (if 0 ≤ s2 ∧ s2 ≤ w64 (s2 + a1) ∧ w64 (s2 + a1) ≤ (a0.length : Int) then ((slices_Clone_111 ((a0.take (w64 (s2 + a1)).toNat).drop s2.toNat)).bind fun x8 => if (s3.length + ([x8]).length) * 24 ≤ 140737488355328 then (some (.next (w64 (s2 + a1), (s3 ++ [x8])))) else none) else none) else (some (.stop (s2, s3)))
noncomputable def impl_parted (a0 : List Int) (a1 : Int) : Option (List (List Int)) :=
  (iter (fun s => impl_parted_l1 a0 a1 s.1 s.2) (0, ([] : List (List Int)))).bind fun o => match o with | .stop (s2, s3) => (some (s3)) | .ret r => some r | .next _ => none
theorem impl_parted_ok {w0 : World} {a0 : List Int} {a1 : Int} {va0 : Value} (h0 : Ro (kf fI64) w0 va0 a0) {r : List (List Int)} (hF : impl_parted a0 a1 = some r) :
    Calls Try.prog 164 [va0, vI a1].toArray w0 fun e w => ∃ v, e = .returned v ∧ Below w0.heap.size w0 w ∧ ∃ u0, u0 = v ∧ Fresh (Kd.slice 2 (kf fI64)) 36 w0 w u0 r := by
  refine calls_of (k := 26) Try.func164 rfl rfl (Nat.le_of_ble_eq_true rfl) fun a hf => ?_
  replace hf : Fr 26 a [(0, va0), (1, vI a1)] := hf
  refine c_start fun w ρ hw => ?_
  unfold impl_parted at hF
  refine c_seq <| c_region ?_
  have o1 : Ow (Kd.slice 2 (kf fI64)) 36 ρ w w0.heap.size 1 (.slice none 0 0) [] := Ow.nil _ _ _ _ _ _
  refine s_ hf (r_assign hf rfl) fun a hf => ?_
  refine c_nt <| c_seq <| c_region ?_
  refine sx_ hf (r_lit_none (d := (Kd.slice 2 (kf fI64))) 2 Try.underlying24 el36 hw) fun a v2 w hf hΦ => ?_
  obtain ⟨ρ, hw, hE, o2⟩ := hΦ
  replace o1 := o1.ext hE
  refine s_ hf (r_assign hf rfl) fun a hf => ?_
  refine c_nt <| c_seq <| c_seq <| c_region ?_
  refine s_ hf (r_assign hf rfl) fun a hf => ?_
  refine c_nt ?_
  obtain ⟨ol1, ho1, hG1⟩ := of_bind hF
  clear hF
  refine c_block (c_loop (id := 0) (fun s => impl_parted_l1 a0 a1 s.1 s.2) (fun (s : Int × (List (List Int))) a w => match s with | (s2, s3) => ∃ ρ vv4, Wd w0 ρ w ∧ Fr 26 a [(0, va0), (1, vI a1), (5, vv4), (6, vI s2)] ∧ O36 ρ w w0 2 vv4 s3) (fun (s : Int × (List (List Int))) a w => match s with | (s2, s3) => ∃ ρ vv4, Wd w0 ρ w ∧ Fr 26 a [(5, vv4)] ∧ O36 ρ w w0 2 vv4 s3) ho1 ⟨_, _, hw, hf.sub ⟨rfl, rfl, rfl, rfl, trivial⟩, o2⟩ ?_ ?_)
  · rintro ⟨s2, s3⟩ lr a w ⟨ρ, vv4, hw, hf, o2⟩ hF
    replace hF : impl_parted_l1 a0 a1 s2 s3 = some lr := hF
    unfold impl_parted_l1 at hF
    refine c_seq <| c_seq <| c_region ?_
    refine s_ hf (r_move hf rfl) fun a hf => ?_
    refine s_ hf (r_move hf rfl) fun a hf => ?_
    refine s_ hf (r_len Try.underlying36 (h0.now hw) hf rfl) fun a hf => ?_
    refine s_ hf (r_lss hf rfl rfl) fun a hf => ?_
    refine c_nt ?_
    rcases of_ite hF with ⟨hb5, hF⟩ | ⟨hb5, hF⟩
    rotate_left
    · refine c_iff hf rfl hb5 <| c_exit <| x_then ?_
      obtain rfl := Option.some.inj hF
      exact Rnd.stops ⟨_, _, hw, hf.sub ⟨rfl, trivial⟩, o2⟩
    refine c_ift hf rfl hb5 <| c_skip <| n_then <| c_seq <| c_block <| c_region ?_
    refine s_ hf (r_move hf rfl) fun a hf => ?_
    refine s_ hf (r_move hf rfl) fun a hf => ?_
    refine s_ hf (r_move hf rfl) fun a hf => ?_
    refine s_ hf (r_move hf rfl) fun a hf => ?_
    refine s_ hf (r_move hf rfl) fun a hf => ?_
    refine s_ hf (r_add hf rfl rfl) fun a hf => ?_
    obtain ⟨hc6, hF⟩ := of_guard hF
    have hq7 : Ro (kf fI64) w0 (cutV va0 s2.toNat (w64 (s2 + a1)).toNat 1) ((a0.take (w64 (s2 + a1)).toNat).drop s2.toNat) := ro_cutV h0 hc6.1 hc6.2.1 hc6.2.2
    refine s_ hf (r_cut_v (lo := s2) (hi := w64 (s2 + a1)) Try.underlying36 sz2 rfl (h0.now hw) hf rfl (.inr ⟨_, rfl, rfl⟩) (.inr ⟨_, rfl, rfl⟩) hc6.1 hc6.2.1 hc6.2.2) fun a hf => ?_
    obtain ⟨x8, hx9, hF⟩ := of_bind hF
    refine st_fn 3 hw hf rfl rfl (by decide) (r_fn en111 hf rfl) (slices_Clone_111_ok (hq7.now hw) hx9) fun a v w ρ hf hw hE hN hΦ => ?_
    obtain ⟨u10, rfl, hr11⟩ := hΦ
    replace o2 := o2.ext hE
    have o3 := hN hr11
    refine sx_ hf (r_lit_row 4 Try.underlying24 el36 hw (by decide) hf rfl o3) fun a v4 w hf hΦ => ?_
    obtain ⟨ρ, hw, hT, hB, o4⟩ := hΦ
    replace o2 := o2.tr (hT 2 (by decide))
    obtain ⟨hc12, hF⟩ := of_guard hF
    refine sx_ hf (r_append_own Try.underlying24 el36 hw (by decide) (by decide) (by decide) o2 o4 hc12 hf rfl rfl) fun a va13 w hf hΦ => ?_
    obtain ⟨ρ, hw, hT, o2⟩ := hΦ
    refine s_ hf (r_assign hf rfl) fun a hf => ?_
    refine c_nil <| n_block <| n_then <| c_region ?_
    refine s_ hf (r_move hf rfl) fun a hf => ?_
    refine s_ hf (r_move hf rfl) fun a hf => ?_
    refine s_ hf (r_add hf rfl rfl) fun a hf => ?_
    refine s_ hf (r_assign hf rfl) fun a hf => ?_
    refine c_nil ?_
    obtain rfl := Option.some.inj hF
    exact Rnd.goes ⟨_, _, hw, hf.sub ⟨rfl, rfl, rfl, rfl, trivial⟩, o2⟩
  rintro ⟨s2, s3⟩ a w hs ⟨ρ, vv4, hw, hf, o2⟩
  subst hs
  have hF := hG1
  dsimp only at hF
  refine x_block <| n_then <| c_seq <| c_region ?_
  refine s_ hf (r_move hf rfl) fun a hf => ?_
  refine s_ hf (r_assign hf rfl) fun a hf => ?_
  refine c_nt <| c_retc ?_
  obtain rfl := Option.some.inj hF
  refine c_ret hf (res_tmp Try.results164 hf rfl) ?_
  exact ⟨_, rfl, hw.below, ⟨_, rfl, o2.out⟩⟩
/-! f131 -/
noncomputable def impl_matrixOf_l1 (a0 : Form) (a1 : Int) (a2 : Int) (s2 : Int) (s3 : List Int) : Option (LR (Int × (List Int)) (List (List Int))) :=
  if (decide (s2 < (w64 (a1 * a2)))) = true then (if 0 ≤ s2 ∧ s2 < 9 then (if (s3.length + ([((vg 0 a0 s2).toNat : Int)]).length) * 8 ≤ 140737488355328 then (some (.next (w64 (s2 + 1), (s3 ++ [((vg 0 a0 s2).toNat : Int)])))) else none) else none) else (some (.stop (s2, s3)))
noncomputable def impl_matrixOf (a0 : Form) (a1 : Int) (a2 : Int) : Option (List (List Int)) :=
  (iter (fun s => impl_matrixOf_l1 a0 a1 a2 s.1 s.2) (0, ([] : List Int))).bind fun o => match o with | .stop (s2, s3) => ((impl_parted s3 a2).bind fun x9 => some (x9)) | .ret r => some r | .next _ => none
theorem impl_matrixOf_ok {w0 : World} {a0 : Form} {a1 : Int} {a2 : Int}   {r : List (List Int)} (hF : impl_matrixOf a0 a1 a2 = some r) :
    Calls Try.prog 131 [.agg (cForm.enc a0).toArray, vI a1, vI a2].toArray w0 fun e w => ∃ v, e = .returned v ∧ Below w0.heap.size w0 w ∧ ∃ u0, u0 = v ∧ Fresh (Kd.slice 2 (kf fI64)) 36 w0 w u0 r := by
  refine calls_of (k := 27) Try.func131 rfl rfl (Nat.le_of_ble_eq_true rfl) fun a hf => ?_
  replace hf : Fr 27 a [(0, .agg (cForm.enc a0).toArray), (1, vI a1), (2, vI a2)] := hf
  refine c_start fun w ρ hw => ?_
  unfold impl_matrixOf at hF
  refine c_seq <| c_region ?_
  refine sx_ hf (r_box (cs := cForm.enc a0) 1 hw hf rfl rfl) fun a v w hf hΦ => ?_
  obtain ⟨g1, ρ, rfl, hw, hE, o1⟩ := hΦ
  have o2 : Ow (Kd.slice 2 (kf fI64)) 36 ρ w w0.heap.size 2 (.slice none 0 0) [] := Ow.nil _ _ _ _ _ _
  refine s_ hf (r_assign hf rfl) fun a hf => ?_
  refine c_nt <| c_seq <| c_region ?_
  refine sx_ hf (r_lit (d := fI64) (xs := ([] : List Int)) (vs := []) 3 Try.underlying36 el2 (Nat.le_of_ble_eq_true rfl) (Nat.le_of_ble_eq_true rfl) hw hf rfl rfl rfl) fun a v3 w hf hΦ => ?_
  obtain ⟨ρ, hw, hE, o3⟩ := hΦ
  replace o1 := o1.ext hE
  replace o2 := o2.ext hE
  refine s_ hf (r_assign hf rfl) fun a hf => ?_
  refine c_nt <| c_seq <| c_seq <| c_region ?_
  refine s_ hf (r_move hf rfl) fun a hf => ?_
  refine s_ hf (r_move hf rfl) fun a hf => ?_
  refine s_ hf (r_mul hf rfl rfl) fun a hf => ?_
  refine s_ hf (r_move hf rfl) fun a hf => ?_
  refine c_nt ?_
  obtain ⟨ol1, ho1, hG1⟩ := of_bind hF
  clear hF
  refine c_block (c_loop (id := 0) (fun s => impl_matrixOf_l1 a0 a1 a2 s.1 s.2) (fun (s : Int × (List Int)) a w => match s with | (s2, s3) => ∃ ρ vv4, Wd w0 ρ w ∧ Fr 27 a [(2, vI a2), (3, .pointer (some ((⟨g1, 0, none⟩ : Addr).add 0))), (7, vv4), (12, vI (w64 (a1 * a2))), (13, vI s2)] ∧ Va ρ w 1 g1 80 (cForm.enc a0) ∧ O2 ρ w w0 3 vv4 s3) (fun (s : Int × (List Int)) a w => match s with | (s2, s3) => ∃ ρ vv4, Wd w0 ρ w ∧ Fr 27 a [(2, vI a2), (7, vv4)] ∧ O2 ρ w w0 3 vv4 s3) ho1 ⟨_, _, hw, hf.sub ⟨rfl, rfl, rfl, rfl, rfl, trivial⟩, o1, o3⟩ ?_ ?_)
  · rintro ⟨s2, s3⟩ lr a w ⟨ρ, vv4, hw, hf, o1, o3⟩ hF
    replace hF : impl_matrixOf_l1 a0 a1 a2 s2 s3 = some lr := hF
    unfold impl_matrixOf_l1 at hF
    refine c_seq <| c_region ?_
    refine s_ hf (r_lss hf rfl rfl) fun a hf => ?_
    refine c_nt <| c_seq ?_
    rcases of_ite hF with ⟨hb5, hF⟩ | ⟨hb5, hF⟩
    rotate_left
    · refine c_iff hf rfl hb5 <| c_exit <| x_then ?_
      obtain rfl := Option.some.inj hF
      exact Rnd.stops ⟨_, _, hw, hf.sub ⟨rfl, rfl, trivial⟩, o3⟩
    refine c_ift hf rfl hb5 <| c_skip <| n_then <| c_seq <| c_block <| c_seq <| c_region ?_
    refine s_ hf (r_move hf rfl) fun a hf => ?_
    refine s_ hf (r_assign hf rfl) fun a hf => ?_
    refine c_nt <| c_region ?_
    refine s_ hf (r_move hf rfl) fun a hf => ?_
    refine s_ hf (r_move hf rfl) fun a hf => ?_
    obtain ⟨hc6, hF⟩ := of_guard hF
    refine s_ hf (r_indexAddr_arr Try.underlying80 sz5 hf rfl rfl hc6.1 hc6.2) fun a hf => ?_
    refine s_ hf (r_load_cell ty5 hf rfl (o1.cl.lens (Lens.vec 0 fU8 s2 hc6.1 hc6.2))) fun a hf => ?_
    refine s_ hf (r_conv_u8_i64 Try.underlying5 Try.underlying2 hf rfl) fun a hf => ?_
    refine sx_ hf (r_lit (d := fI64) (xs := ([((vg 0 a0 s2).toNat : Int)] : List Int)) (vs := [vI ((vg 0 a0 s2).toNat : Int)]) 4 Try.underlying36 el2 (Nat.le_of_ble_eq_true rfl) (Nat.le_of_ble_eq_true rfl) hw hf rfl rfl rfl) fun a v4 w hf hΦ => ?_
    obtain ⟨ρ, hw, hE, o4⟩ := hΦ
    replace o1 := o1.ext hE
    replace o3 := o3.ext hE
    obtain ⟨hc7, hF⟩ := of_guard hF
    refine sx_ hf (r_append Try.underlying36 el2 hw (by decide) o3 o4.ro hc7 hf rfl rfl) fun a va8 w hf hΦ => ?_
    obtain ⟨ρ, hw, hA, o3⟩ := hΦ
    replace o1 := o1.adv hA (by decide)
    replace o4 := o4.adv hA (by decide)
    refine s_ hf (r_assign hf rfl) fun a hf => ?_
    refine c_nil <| n_block <| n_then <| c_region ?_
    refine s_ hf (r_add hf rfl rfl) fun a hf => ?_
    refine s_ hf (r_move hf rfl) fun a hf => ?_
    refine c_nil ?_
    obtain rfl := Option.some.inj hF
    exact Rnd.goes ⟨_, _, hw, hf.sub ⟨rfl, rfl, rfl, rfl, rfl, trivial⟩, o1, o3⟩
  rintro ⟨s2, s3⟩ a w hs ⟨ρ, vv4, hw, hf, o3⟩
  subst hs
  have hF := hG1
  dsimp only at hF
  refine x_block <| n_then <| c_seq <| c_region ?_
  refine s_ hf (r_move hf rfl) fun a hf => ?_
  refine s_ hf (r_move hf rfl) fun a hf => ?_
  obtain ⟨x9, hx10, hF⟩ := of_bind hF
  refine st_fn 5 hw hf rfl rfl (by decide) (r_fn en164 hf rfl) (impl_parted_ok o3.ro hx10) fun a v w ρ hf hw hE hN hΦ => ?_
  obtain ⟨u11, rfl, hr12⟩ := hΦ
  replace o3 := o3.ext hE
  have o5 := hN hr12
  refine s_ hf (r_assign hf rfl) fun a hf => ?_
  refine c_nt <| c_retc ?_
  obtain rfl := Option.some.inj hF
  refine c_ret hf (res_tmp Try.results131 hf rfl) ?_
  exact ⟨_, rfl, hw.below, ⟨_, rfl, o5.out⟩⟩
/-! f149 -/
noncomputable def impl_rank_1 (a0 : List Int) (c1 : Int) : Option Bool :=
  if 0 ≤ c1 ∧ c1 < (a0.length : Int) then (some (decide ((gl 0 a0 c1) ≠ 0))) else none
theorem impl_rank_1_ok {w0 : World} {a0 : List Int} {c1 : Int} {va0 : Value} {gc1 : Nat} (h0 : Ro (kf fI64) w0 va0 a0) (hc1 : Cl w0 ⟨gc1, 0, none⟩ 0 [vI c1]) {r : Bool} (hF : impl_rank_1 a0 c1 = some r) :
    Calls Try.prog 149 [va0, .pointer (some ((⟨gc1, 0, none⟩ : Addr).add 0))].toArray w0 fun e w => ∃ v, e = .returned v ∧ Below w0.heap.size w0 w ∧ .bool r = v := by
  refine calls_of (k := 9) Try.func149 rfl rfl (Nat.le_of_ble_eq_true rfl) fun a hf => ?_
  replace hf : Fr 9 a [(0, va0), (1, .pointer (some ((⟨gc1, 0, none⟩ : Addr).add 0)))] := hf
  refine c_start fun w ρ hw => ?_
  unfold impl_rank_1 at hF
  refine c_seq <| c_region ?_
  refine s_ hf (r_assign hf rfl) fun a hf => ?_
  refine c_nt <| c_seq <| c_region ?_
  refine s_ hf (r_move hf rfl) fun a hf => ?_
  refine s_ hf (r_load_cell ty3 hf rfl (hc1.below hw.below)) fun a hf => ?_
  obtain ⟨hc1, hF⟩ := of_guard hF
  obtain ⟨ad2, c2, he2, hl2⟩ := Ro.el fI64 h0 0 hc1.1 hc1.2
  refine s_ hf (r_idx Try.underlying36 sz2 hf rfl ⟨_, he2⟩ rfl hc1.1 hc1.2) fun a hf => ?_
  refine s_ hf (r_load_cell ty2 hf rfl (hl2.below hw.below)) fun a hf => ?_
  refine s_ hf (r_neq hf rfl rfl) fun a hf => ?_
  refine s_ hf (r_assign hf rfl) fun a hf => ?_
  refine c_nt <| c_retc ?_
  obtain rfl := Option.some.inj hF
  refine c_ret hf (res_tmp Try.results149 hf rfl) ?_
  exact ⟨_, rfl, hw.below, rfl⟩
/-! f108s149 -/
noncomputable def slices_IndexFunc_108_f149_l1 (a0 : List (List Int)) (c1_0 : Int) (s2 : Int) : Option (LR Int Int) :=
  if (decide (s2 < (a0.length : Int))) = true then (if 0 ≤ s2 ∧ s2 < (a0.length : Int) then ((impl_rank_1 (gl [] a0 s2) c1_0).bind fun x6 => if x6 = true then (some (.ret s2)) else (some (.next (w64 (s2 + 1))))) else none) else (some (.stop s2))
noncomputable def slices_IndexFunc_108_f149 (a0 : List (List Int)) (c1_0 : Int) : Option Int :=
  (iter (fun s => slices_IndexFunc_108_f149_l1 a0 c1_0 s) 0).bind fun o => match o with | .stop s2 => (some ((-1))) | .ret r => some r | .next _ => none
theorem slices_IndexFunc_108_f149_ok {w0 : World} {a0 : List (List Int)} {c1_0 : Int} {va0 : Value} {gc1_0 : Nat} (h0 : Ro (Kd.slice 2 (kf fI64)) w0 va0 a0) (hc1_0 : Cl w0 ⟨gc1_0, 0, none⟩ 0 [vI c1_0]) {r : Int} (hF : slices_IndexFunc_108_f149 a0 c1_0 = some r) :
    Calls Try.prog 108 [va0, .func (.func 149) #[] #[.pointer (some ((⟨gc1_0, 0, none⟩ : Addr).add 0))]].toArray w0 fun e w => ∃ v, e = .returned v ∧ Below w0.heap.size w0 w ∧ .int .i64 r = v := by
  refine calls_of (k := 19) Try.func108 rfl rfl (Nat.le_of_ble_eq_true rfl) fun a hf => ?_
  replace hf : Fr 19 a [(0, va0), (1, .func (.func 149) #[] #[.pointer (some ((⟨gc1_0, 0, none⟩ : Addr).add 0))])] := hf
  refine c_start fun w ρ hw => ?_
  unfold slices_IndexFunc_108_f149 at hF
  refine c_seq <| c_region ?_
  refine s_ hf (r_assign hf rfl) fun a hf => ?_
  refine c_nt <| c_seq <| c_seq <| c_region ?_
  refine s_ hf (r_move hf rfl) fun a hf => ?_
  refine s_ hf (r_len Try.underlying24 (h0.now hw) hf rfl) fun a hf => ?_
  refine s_ hf (r_move hf rfl) fun a hf => ?_
  refine c_nt ?_
  obtain ⟨ol1, ho1, hG1⟩ := of_bind hF
  clear hF
  refine c_block (c_loop (id := 0) (fun s => slices_IndexFunc_108_f149_l1 a0 c1_0 s) (fun (s2 : Int) a w => ∃ ρ, Wd w0 ρ w ∧ Fr 19 a [(0, va0), (1, .func (.func 149) #[] #[.pointer (some ((⟨gc1_0, 0, none⟩ : Addr).add 0))]), (7, vI (a0.length : Int)), (8, vI s2)]) (fun (s2 : Int) a w => ∃ ρ, Wd w0 ρ w ∧ Fr 19 a []) ho1 ⟨_, hw, hf.sub ⟨rfl, rfl, rfl, rfl, trivial⟩⟩ ?_ ?_)
  · rintro s2 lr a w ⟨ρ, hw, hf⟩ hF
    replace hF : slices_IndexFunc_108_f149_l1 a0 c1_0 s2 = some lr := hF
    unfold slices_IndexFunc_108_f149_l1 at hF
    refine c_seq <| c_region ?_
    refine s_ hf (r_lss hf rfl rfl) fun a hf => ?_
    refine c_nt <| c_seq ?_
    rcases of_ite hF with ⟨hb3, hF⟩ | ⟨hb3, hF⟩
    rotate_left
    · refine c_iff hf rfl hb3 <| c_exit <| x_then ?_
      obtain rfl := Option.some.inj hF
      exact Rnd.stops ⟨_, hw, hf.sub trivial⟩
    refine c_ift hf rfl hb3 <| c_skip <| n_then <| c_seq <| c_block <| c_seq <| c_region ?_
    refine s_ hf (r_move hf rfl) fun a hf => ?_
    refine s_ hf (r_assign hf rfl) fun a hf => ?_
    refine c_nt <| c_seq <| c_region ?_
    refine s_ hf (r_move hf rfl) fun a hf => ?_
    refine s_ hf (r_move hf rfl) fun a hf => ?_
    refine s_ hf (r_move hf rfl) fun a hf => ?_
    obtain ⟨hc4, hF⟩ := of_guard hF
    obtain ⟨ad5, c5, u5, he5, hl5, ho5⟩ := Ro.el_row h0 hc4.1 hc4.2
    refine s_ hf (r_idx Try.underlying24 sz36 hf rfl ⟨_, he5⟩ rfl hc4.1 hc4.2) fun a hf => ?_
    refine s_ hf (r_load_cell ty36 hf rfl (hl5.below hw.below)) fun a hf => ?_
    obtain ⟨x6, hx7, hF⟩ := of_bind hF
    refine st_fn 1 hw hf rfl rfl (by decide) (r_fnc en149 hf rfl rfl) (impl_rank_1_ok (ho5.now hw) (hc1_0.below hw.below) hx7) fun a v w ρ hf hw hE hN hΦ => ?_
    obtain rfl := hΦ
    refine c_nt ?_
    rcases of_ite hF with ⟨hb8, hF⟩ | ⟨hb8, hF⟩
    rotate_left
    · refine c_iff hf rfl hb8 <| c_skip <| n_block <| n_then <| c_region ?_
      refine s_ hf (r_add hf rfl rfl) fun a hf => ?_
      refine s_ hf (r_move hf rfl) fun a hf => ?_
      refine c_nil ?_
      obtain rfl := Option.some.inj hF
      exact Rnd.goes ⟨_, hw, hf.sub ⟨rfl, rfl, rfl, rfl, trivial⟩⟩
    refine c_ift hf rfl hb8 <| c_seq <| c_region ?_
    refine s_ hf (r_move hf rfl) fun a hf => ?_
    refine s_ hf (r_assign hf rfl) fun a hf => ?_
    refine c_nt <| c_retc ?_
    obtain rfl := Option.some.inj hF
    refine r_block <| r_then ?_
    refine Rnd.rets fun ho => ?_
    subst ho
    have hF := hG1
    dsimp only at hF
    obtain rfl := Option.some.inj hF
    refine r_block <| r_then <| c_ret hf (res_tmp Try.results108 hf rfl) ?_
    exact ⟨_, rfl, hw.below, rfl⟩
  rintro s2 a w hs ⟨ρ, hw, hf⟩
  subst hs
  have hF := hG1
  dsimp only at hF
  refine x_block <| n_then <| c_seq <| c_region ?_
  refine s_ hf (r_assign hf rfl) fun a hf => ?_
  refine c_nt <| c_retc ?_
  obtain rfl := Option.some.inj hF
  refine c_ret hf (res_tmp Try.results108 hf rfl) ?_
  exact ⟨_, rfl, hw.below, rfl⟩
end Go.Proofs.YtB
