/- Functions of the program as plain functions, and that they compute these. Printed by gen.py. -/
import Derived.Test.YtbhaeajdabgnhaaAeT
set_option linter.unusedVariables false
set_option linter.unusedSimpArgs false
set_option maxRecDepth 4000
set_option maxHeartbeats 1000000
namespace Go.Proofs.YtB
open Go Go.RowKit Go.Proofs Go.Proofs.YtbhaeajdabgnhaaW.PrintWords
/-! f80 -/
noncomputable def laws_szProductS (a0 : List Prod) (a1 : Int) : Option Int :=
  if (decide ((w64 (a1 - (a0.length : Int))) < 0)) = true then (some ((-1))) else (some (w64 (a1 - (a0.length : Int))))
theorem laws_szProductS_ok {w0 : World} {a0 : List Prod} {a1 : Int} {va0 : Value} (h0 : Ro (kf cProd) w0 va0 a0) {r : Int} (hF : laws_szProductS a0 a1 = some r) :
    Calls Try.prog 80 [va0, vI a1].toArray w0 fun e w => ∃ v, e = .returned v ∧ Below w0.heap.size w0 w ∧ .int .i64 r = v := by
  refine calls_of (k := 12) Try.func80 rfl rfl (Nat.le_of_ble_eq_true rfl) fun a hf => ?_
  replace hf : Fr 12 a [(0, va0), (1, vI a1)] := hf
  refine c_start fun w ρ hw => ?_
  unfold laws_szProductS at hF
  refine c_seq <| c_region ?_
  refine s_ hf (r_assign hf rfl) fun a hf => ?_
  refine c_nt <| c_seq <| c_region ?_
  refine s_ hf (r_move hf rfl) fun a hf => ?_
  refine s_ hf (r_move hf rfl) fun a hf => ?_
  refine s_ hf (r_len Try.underlying46 (h0.now hw) hf rfl) fun a hf => ?_
  refine s_ hf (r_sub hf rfl rfl) fun a hf => ?_
  refine s_ hf (r_assign hf rfl) fun a hf => ?_
  refine c_nt <| c_seq <| c_seq <| c_region ?_
  refine s_ hf (r_move hf rfl) fun a hf => ?_
  refine s_ hf (r_lss hf rfl rfl) fun a hf => ?_
  refine c_nt ?_
  rcases of_ite hF with ⟨hb1, hF⟩ | ⟨hb1, hF⟩
  · refine c_ift hf rfl hb1 <| c_seq <| c_region ?_
    refine s_ hf (r_assign hf rfl) fun a hf => ?_
    refine c_nt <| c_retc ?_
    obtain rfl := Option.some.inj hF
    refine r_then <| c_ret hf (res_tmp Try.results80 hf rfl) ?_
    exact ⟨_, rfl, hw.below, rfl⟩
  refine c_iff hf rfl hb1 <| c_skip <| n_then <| c_seq <| c_region ?_
  refine s_ hf (r_move hf rfl) fun a hf => ?_
  refine s_ hf (r_assign hf rfl) fun a hf => ?_
  refine c_nt <| c_retc ?_
  obtain rfl := Option.some.inj hF
  refine c_ret hf (res_tmp Try.results80 hf rfl) ?_
  exact ⟨_, rfl, hw.below, rfl⟩
/-! f34 -/
noncomputable def laws_szScheme (a0 : Sch) (a1 : Int) : Option Int :=
  (laws_szProductS a0.ps a1).bind fun x1 => if (decide (x1 < 0)) = true then (some ((-1))) else (some (x1))
theorem laws_szScheme_ok {w0 : World} {a0 : Sch} {a1 : Int} {va0 : Value} (h0 : Ro (kf cProd) w0 va0 a0.ps) {r : Int} (hF : laws_szScheme a0 a1 = some r) :
    Calls Try.prog 34 [.agg ([vI a0.p, vI a0.n, vI a0.m, vI a0.k, va0]).toArray, vI a1].toArray w0 fun e w => ∃ v, e = .returned v ∧ Below w0.heap.size w0 w ∧ .int .i64 r = v := by
  refine calls_of (k := 12) Try.func34 rfl rfl (Nat.le_of_ble_eq_true rfl) fun a hf => ?_
  replace hf : Fr 12 a [(0, .agg ([vI a0.p, vI a0.n, vI a0.m, vI a0.k, va0]).toArray), (1, vI a1)] := hf
  refine c_start fun w ρ hw => ?_
  unfold laws_szScheme at hF
  refine c_seq <| c_region ?_
  refine sx_ hf (r_box (cs := [vI a0.p, vI a0.n, vI a0.m, vI a0.k, va0]) 1 hw hf rfl rfl) fun a v w hf hΦ => ?_
  obtain ⟨g1, ρ, rfl, hw, hE, o1⟩ := hΦ
  refine s_ hf (r_assign hf rfl) fun a hf => ?_
  refine c_nt <| c_seq <| c_region ?_
  refine s_ hf (r_fa fa48_4 hf rfl) fun a hf => ?_
  refine s_ hf (r_load_cell ty46 hf rfl (o1.cl.at_ 4 _ rfl)) fun a hf => ?_
  refine s_ hf (r_move hf rfl) fun a hf => ?_
  obtain ⟨x1, hx2, hF⟩ := of_bind hF
  refine st_fn 2 hw hf rfl rfl (by decide) (r_fn en80 hf rfl) (laws_szProductS_ok (h0.now hw) hx2) fun a v w ρ hf hw hE hN hΦ => ?_
  obtain rfl := hΦ
  replace o1 := o1.ext hE
  refine s_ hf (r_assign hf rfl) fun a hf => ?_
  refine c_nt <| c_seq <| c_seq <| c_region ?_
  refine s_ hf (r_move hf rfl) fun a hf => ?_
  refine s_ hf (r_lss hf rfl rfl) fun a hf => ?_
  refine c_nt ?_
  rcases of_ite hF with ⟨hb3, hF⟩ | ⟨hb3, hF⟩
  · refine c_ift hf rfl hb3 <| c_seq <| c_region ?_
    refine s_ hf (r_assign hf rfl) fun a hf => ?_
    refine c_nt <| c_retc ?_
    obtain rfl := Option.some.inj hF
    refine r_then <| c_ret hf (res_tmp Try.results34 hf rfl) ?_
    exact ⟨_, rfl, hw.below, rfl⟩
  refine c_iff hf rfl hb3 <| c_skip <| n_then <| c_seq <| c_region ?_
  refine s_ hf (r_move hf rfl) fun a hf => ?_
  refine s_ hf (r_assign hf rfl) fun a hf => ?_
  refine c_nt <| c_retc ?_
  obtain rfl := Option.some.inj hF
  refine c_ret hf (res_tmp Try.results34 hf rfl) ?_
  exact ⟨_, rfl, hw.below, rfl⟩
/-! f160 -/
noncomputable def laws_toForm_l1 (a0 : Form) (s2 : Int) (s3 : Form) : Option (LR (Int × Form) Form) :=
  if (decide (s2 < 9)) = true then (if 0 ≤ s2 ∧ s2 < 9 then (some (.next (w64 (s2 + 1), vs s3 s2 (vg 0 a0 s2)))) else none) else (some (.stop (s2, s3)))
noncomputable def laws_toForm (a0 : Form) : Option Form :=
  (iter (fun s => laws_toForm_l1 a0 s.1 s.2) (0, zForm)).bind fun o => match o with | .stop (s2, s3) => (some (s3)) | .ret r => some r | .next _ => none
theorem laws_toForm_ok {w0 : World} {a0 : Form}   {r : Form} (hF : laws_toForm a0 = some r) :
    Calls Try.prog 160 [.agg (cForm.enc a0).toArray].toArray w0 fun e w => ∃ v, e = .returned v ∧ Below w0.heap.size w0 w ∧ .agg (cForm.enc r).toArray = v := by
  refine calls_of (k := 15) Try.func160 rfl rfl (Nat.le_of_ble_eq_true rfl) fun a hf => ?_
  replace hf : Fr 15 a [(0, .agg (cForm.enc a0).toArray)] := hf
  refine c_start fun w ρ hw => ?_
  unfold laws_toForm at hF
  refine c_seq <| c_region ?_
  refine sx_ hf (r_box (cs := cForm.enc a0) 1 hw hf rfl rfl) fun a v w hf hΦ => ?_
  obtain ⟨g1, ρ, rfl, hw, hE, o1⟩ := hΦ
  refine sx_ hf (r_alloc (cs := cForm.enc zForm) 2 ze80 rfl hw) fun a v w hf hΦ => ?_
  obtain ⟨g2, ρ, rfl, hw, hE, o2⟩ := hΦ
  replace o1 := o1.ext hE
  refine c_nt <| c_seq <| c_region ?_
  refine sx_ hf (r_alloc (cs := cForm.enc zForm) 3 ze80 rfl hw) fun a v w hf hΦ => ?_
  obtain ⟨g3, ρ, rfl, hw, hE, o3⟩ := hΦ
  replace o1 := o1.ext hE
  replace o2 := o2.ext hE
  refine c_nt <| c_seq <| c_seq <| c_region ?_
  refine s_ hf (r_assign hf rfl) fun a hf => ?_
  refine c_nt ?_
  obtain ⟨ol1, ho1, hG1⟩ := of_bind hF
  clear hF
  refine c_block (c_loop (id := 0) (fun s => laws_toForm_l1 a0 s.1 s.2) (fun (s : Int × Form) a w => match s with | (s2, s3) => ∃ ρ, Wd w0 ρ w ∧ Fr 15 a [(1, .pointer (some ((⟨g1, 0, none⟩ : Addr).add 0))), (2, .pointer (some ((⟨g2, 0, none⟩ : Addr).add 0))), (3, .pointer (some ((⟨g3, 0, none⟩ : Addr).add 0))), (4, vI s2)] ∧ Va ρ w 1 g1 79 (cForm.enc a0) ∧ Va ρ w 2 g2 80 (cForm.enc zForm) ∧ Va ρ w 3 g3 80 (cForm.enc s3)) (fun (s : Int × Form) a w => match s with | (s2, s3) => ∃ ρ, Wd w0 ρ w ∧ Fr 15 a [(2, .pointer (some ((⟨g2, 0, none⟩ : Addr).add 0))), (3, .pointer (some ((⟨g3, 0, none⟩ : Addr).add 0)))] ∧ Va ρ w 2 g2 80 (cForm.enc zForm) ∧ Va ρ w 3 g3 80 (cForm.enc s3)) ho1 ⟨_, hw, hf.sub ⟨rfl, rfl, rfl, rfl, trivial⟩, o1, o2, o3⟩ ?_ ?_)
  · rintro ⟨s2, s3⟩ lr a w ⟨ρ, hw, hf, o1, o2, o3⟩ hF
    replace hF : laws_toForm_l1 a0 s2 s3 = some lr := hF
    unfold laws_toForm_l1 at hF
    refine c_seq <| c_seq <| c_region ?_
    refine s_ hf (r_move hf rfl) fun a hf => ?_
    refine s_ hf (r_lss hf rfl rfl) fun a hf => ?_
    refine c_nt ?_
    rcases of_ite hF with ⟨hb4, hF⟩ | ⟨hb4, hF⟩
    rotate_left
    · refine c_iff hf rfl hb4 <| c_exit <| x_then ?_
      obtain rfl := Option.some.inj hF
      exact Rnd.stops ⟨_, hw, hf.sub ⟨rfl, rfl, trivial⟩, o2, o3⟩
    refine c_ift hf rfl hb4 <| c_skip <| n_then <| c_seq <| c_block <| c_region ?_
    refine s_ hf (r_move hf rfl) fun a hf => ?_
    refine s_ hf (r_move hf rfl) fun a hf => ?_
    obtain ⟨hc5, hF⟩ := of_guard hF
    refine s_ hf (r_indexAddr_arr Try.underlying79 sz5 hf rfl rfl hc5.1 hc5.2) fun a hf => ?_
    refine s_ hf (r_load_cell ty5 hf rfl (o1.cl.lens (Lens.vec 0 fU8 s2 hc5.1 hc5.2))) fun a hf => ?_
    refine s_ hf (r_indexAddr_arr Try.underlying80 sz5 hf rfl rfl hc5.1 hc5.2) fun a hf => ?_
    refine sk_ hf (r_store_l (b := vg 0 a0 s2) hw o3 (by decide) (Lens.vec 0 fU8 s2 hc5.1 hc5.2) (by simp only [Nat.zero_add] <;> rfl) ty5 hf rfl rfl rfl) fun a w hf hΦ => ?_
    obtain ⟨hw, hA, o3⟩ := hΦ
    replace o1 := o1.adv hA (by decide)
    replace o2 := o2.adv hA (by decide)
    refine c_nil <| n_block <| n_then <| c_region ?_
    refine s_ hf (r_move hf rfl) fun a hf => ?_
    refine s_ hf (r_add hf rfl rfl) fun a hf => ?_
    refine s_ hf (r_assign hf rfl) fun a hf => ?_
    refine c_nil ?_
    obtain rfl := Option.some.inj hF
    exact Rnd.goes ⟨_, hw, hf.sub ⟨rfl, rfl, rfl, rfl, trivial⟩, o1, o2, o3⟩
  rintro ⟨s2, s3⟩ a w hs ⟨ρ, hw, hf, o2, o3⟩
  subst hs
  have hF := hG1
  dsimp only at hF
  refine x_block <| n_then <| c_seq <| c_region ?_
  refine s_ hf (r_load_agg ty80 hf rfl o3.cl (cForm.len _)) fun a hf => ?_
  refine sk_ hf (r_store_w (cs' := cForm.enc s3) hw o2 (by decide) ty80 (cForm.len _) (cForm.len _) (cForm.one _) hf rfl rfl rfl) fun a w hf hΦ => ?_
  obtain ⟨hw, hA, o2⟩ := hΦ
  replace o3 := o3.adv hA (by decide)
  refine c_nt <| c_retc ?_
  obtain rfl := Option.some.inj hF
  refine c_ret hf (res_cell Try.results160 ty80 hf rfl o2.cl (cForm.len _)) ?_
  exact ⟨_, rfl, hw.below, rfl⟩
/-! f128 -/
noncomputable def laws_toProduct (a0 : Prod) : Option Prod :=
  (laws_toForm a0.1).bind fun x1 => (laws_toForm a0.2.1).bind fun x3 => (laws_toForm a0.2.2).bind fun x5 => some ((((x1, zProd.2.1, zProd.2.2).1, x3, (x1, zProd.2.1, zProd.2.2).2.2).1, ((x1, zProd.2.1, zProd.2.2).1, x3, (x1, zProd.2.1, zProd.2.2).2.2).2.1, x5))
theorem laws_toProduct_ok {w0 : World} {a0 : Prod}   {r : Prod} (hF : laws_toProduct a0 = some r) :
    Calls Try.prog 128 [.agg (cProd.enc a0).toArray].toArray w0 fun e w => ∃ v, e = .returned v ∧ Below w0.heap.size w0 w ∧ .agg (cProd.enc r).toArray = v := by
  refine calls_of (k := 17) Try.func128 rfl rfl (Nat.le_of_ble_eq_true rfl) fun a hf => ?_
  replace hf : Fr 17 a [(0, .agg (cProd.enc a0).toArray)] := hf
  refine c_start fun w ρ hw => ?_
  unfold laws_toProduct at hF
  refine c_seq <| c_region ?_
  refine sx_ hf (r_box (cs := cProd.enc a0) 1 hw hf rfl rfl) fun a v w hf hΦ => ?_
  obtain ⟨g1, ρ, rfl, hw, hE, o1⟩ := hΦ
  refine sx_ hf (r_alloc (cs := cProd.enc zProd) 2 ze82 rfl hw) fun a v w hf hΦ => ?_
  obtain ⟨g2, ρ, rfl, hw, hE, o2⟩ := hΦ
  replace o1 := o1.ext hE
  refine c_nt <| c_seq <| c_region ?_
  refine sx_ hf (r_alloc (cs := cProd.enc zProd) 3 ze82 rfl hw) fun a v w hf hΦ => ?_
  obtain ⟨g3, ρ, rfl, hw, hE, o3⟩ := hΦ
  replace o1 := o1.ext hE
  replace o2 := o2.ext hE
  refine c_nt <| c_seq <| c_region ?_
  refine s_ hf (r_fa fa128_0 hf rfl) fun a hf => ?_
  refine s_ hf (r_load_agg ty79 hf rfl (o1.cl.lens lProd_0) (cForm.len _)) fun a hf => ?_
  obtain ⟨x1, hx2, hF⟩ := of_bind hF
  refine st_fn 4 hw hf rfl rfl (by decide) (r_fn en160 hf rfl) (laws_toForm_ok  hx2) fun a v w ρ hf hw hE hN hΦ => ?_
  obtain rfl := hΦ
  replace o1 := o1.ext hE
  replace o2 := o2.ext hE
  replace o3 := o3.ext hE
  refine s_ hf (r_fa fa82_0 hf rfl) fun a hf => ?_
  refine sk_ hf (r_store_l (b := x1) hw o3 (by decide) lProd_0 (by simp only [Nat.zero_add] <;> rfl) ty80 hf rfl rfl rfl) fun a w hf hΦ => ?_
  obtain ⟨hw, hA, o3⟩ := hΦ
  replace o1 := o1.adv hA (by decide)
  replace o2 := o2.adv hA (by decide)
  refine c_nt <| c_seq <| c_region ?_
  refine s_ hf (r_fa fa128_1 hf rfl) fun a hf => ?_
  refine s_ hf (r_load_agg ty79 hf rfl (o1.cl.lens lProd_1) (cForm.len _)) fun a hf => ?_
  obtain ⟨x3, hx4, hF⟩ := of_bind hF
  refine st_fn 5 hw hf rfl rfl (by decide) (r_fn en160 hf rfl) (laws_toForm_ok  hx4) fun a v w ρ hf hw hE hN hΦ => ?_
  obtain rfl := hΦ
  replace o1 := o1.ext hE
  replace o2 := o2.ext hE
  replace o3 := o3.ext hE
  refine s_ hf (r_fa fa82_1 hf rfl) fun a hf => ?_
  refine sk_ hf (r_store_l (b := x3) hw o3 (by decide) lProd_1 (by simp only [Nat.zero_add] <;> rfl) ty80 hf rfl rfl rfl) fun a w hf hΦ => ?_
  obtain ⟨hw, hA, o3⟩ := hΦ
  replace o1 := o1.adv hA (by decide)
  replace o2 := o2.adv hA (by decide)
  refine c_nt <| c_seq <| c_region ?_
  refine s_ hf (r_fa fa128_2 hf rfl) fun a hf => ?_
  refine s_ hf (r_load_agg ty79 hf rfl (o1.cl.lens lProd_2) (cForm.len _)) fun a hf => ?_
  obtain ⟨x5, hx6, hF⟩ := of_bind hF
  refine st_fn 6 hw hf rfl rfl (by decide) (r_fn en160 hf rfl) (laws_toForm_ok  hx6) fun a v w ρ hf hw hE hN hΦ => ?_
  obtain rfl := hΦ
  replace o1 := o1.ext hE
  replace o2 := o2.ext hE
  replace o3 := o3.ext hE
  refine s_ hf (r_fa fa82_2 hf rfl) fun a hf => ?_
  refine sk_ hf (r_store_l (b := x5) hw o3 (by decide) lProd_2 (by simp only [Nat.zero_add] <;> rfl) ty80 hf rfl rfl rfl) fun a w hf hΦ => ?_
  obtain ⟨hw, hA, o3⟩ := hΦ
  replace o1 := o1.adv hA (by decide)
  replace o2 := o2.adv hA (by decide)
  refine c_nt <| c_seq <| c_region ?_
  refine s_ hf (r_load_agg ty82 hf rfl o3.cl (cProd.len _)) fun a hf => ?_
  refine sk_ hf (r_store_w (cs' := cProd.enc (((x1, zProd.2.1, zProd.2.2).1, x3, (x1, zProd.2.1, zProd.2.2).2.2).1, ((x1, zProd.2.1, zProd.2.2).1, x3, (x1, zProd.2.1, zProd.2.2).2.2).2.1, x5)) hw o2 (by decide) ty82 (cProd.len _) (cProd.len _) (cProd.one _) hf rfl rfl rfl) fun a w hf hΦ => ?_
  obtain ⟨hw, hA, o2⟩ := hΦ
  replace o1 := o1.adv hA (by decide)
  replace o3 := o3.adv hA (by decide)
  refine c_nt <| c_retc ?_
  obtain rfl := Option.some.inj hF
  refine c_ret hf (res_cell Try.results128 ty82 hf rfl o2.cl (cProd.len _)) ?_
  exact ⟨_, rfl, hw.below, rfl⟩
/-! f83 -/
noncomputable def laws_toProductS_l2 (a0 : List Prod) (s3 : Int) (s4 : List Prod) : Option (LR (Int × (List Prod)) (List Prod)) :=
  if (decide (s3 < (a0.length : Int))) = true then (if 0 ≤ s3 ∧ s3 < (a0.length : Int) then ((laws_toProduct (gl zProd a0 s3)).bind fun x8 => if 0 ≤ s3 ∧ s3 < (s4.length : Int) then (some (.next (w64 (s3 + 1), (s4.set s3.toNat x8)))) else none) else none) else (some (.stop (s3, s4)))
noncomputable def laws_toProductS (a0 : List Prod) : Option (List Prod) :=
  if 0 ≤ (a0.length : Int) ∧ (a0.length : Int) * 27 ≤ 281474976710656 then ((iter (fun s => laws_toProductS_l2 a0 s.1 s.2) (0, (List.replicate (a0.length : Int).toNat (zProd : Prod)))).bind fun o => match o with | .stop (s3, s4) => (some (s4)) | .ret r => some r | .next _ => none) else none
theorem laws_toProductS_ok {w0 : World} {a0 : List Prod} {va0 : Value} (h0 : Ro (kf cProd) w0 va0 a0) {r : List Prod} (hF : laws_toProductS a0 = some r) :
    Calls Try.prog 83 [va0].toArray w0 fun e w => ∃ v, e = .returned v ∧ Below w0.heap.size w0 w ∧ ∃ u0, u0 = v ∧ Fresh (kf cProd) 82 w0 w u0 r := by
  refine calls_of (k := 23) Try.func83 rfl rfl (Nat.le_of_ble_eq_true rfl) fun a hf => ?_
  replace hf : Fr 23 a [(0, va0)] := hf
  refine c_start fun w ρ hw => ?_
  unfold laws_toProductS at hF
  refine c_seq <| c_region ?_
  have o1 : Ow (kf cProd) 82 ρ w w0.heap.size 1 (.slice none 0 0) [] := Ow.nil _ _ _ _ _ _
  refine s_ hf (r_assign hf rfl) fun a hf => ?_
  refine c_nt <| c_seq <| c_region ?_
  refine s_ hf (r_move hf rfl) fun a hf => ?_
  refine s_ hf (r_len Try.underlying46 (h0.now hw) hf rfl) fun a hf => ?_
  obtain ⟨hc1, hF⟩ := of_guard hF
  refine sx_ hf (r_make (d := cProd) (z0 := zProd) 2 Try.underlying37 el82 rfl hw hf rfl hc1.1 (mk_le hc1.1 hc1.2)) fun a v2 w hf hΦ => ?_
  obtain ⟨ρ, hw, hE, o2⟩ := hΦ
  replace o1 := o1.ext hE
  refine s_ hf (r_assign hf rfl) fun a hf => ?_
  refine c_nt <| c_seq <| c_seq <| c_region ?_
  refine s_ hf (r_assign hf rfl) fun a hf => ?_
  refine c_nt ?_
  obtain ⟨ol2, ho2, hG2⟩ := of_bind hF
  clear hF
  refine c_block (c_loop (id := 0) (fun s => laws_toProductS_l2 a0 s.1 s.2) (fun (s : Int × (List Prod)) a w => match s with | (s3, s4) => ∃ ρ, Wd w0 ρ w ∧ Fr 23 a [(0, va0), (3, v2), (4, vI s3)] ∧ O82 ρ w w0 2 v2 s4) (fun (s : Int × (List Prod)) a w => match s with | (s3, s4) => ∃ ρ, Wd w0 ρ w ∧ Fr 23 a [(3, v2)] ∧ O82 ρ w w0 2 v2 s4) ho2 ⟨_, hw, hf.sub ⟨rfl, rfl, rfl, trivial⟩, o2⟩ ?_ ?_)
  · rintro ⟨s3, s4⟩ lr a w ⟨ρ, hw, hf, o2⟩ hF
    replace hF : laws_toProductS_l2 a0 s3 s4 = some lr := hF
    unfold laws_toProductS_l2 at hF
    refine c_seq <| c_seq <| c_region ?_
    refine s_ hf (r_move hf rfl) fun a hf => ?_
    refine s_ hf (r_move hf rfl) fun a hf => ?_
    refine s_ hf (r_len Try.underlying46 (h0.now hw) hf rfl) fun a hf => ?_
    refine s_ hf (r_lss hf rfl rfl) fun a hf => ?_
    refine c_nt ?_
    rcases of_ite hF with ⟨hb5, hF⟩ | ⟨hb5, hF⟩
    rotate_left
    · refine c_iff hf rfl hb5 <| c_exit <| x_then ?_
      obtain rfl := Option.some.inj hF
      exact Rnd.stops ⟨_, hw, hf.sub ⟨rfl, trivial⟩, o2⟩
    refine c_ift hf rfl hb5 <| c_skip <| n_then <| c_seq <| c_block <| c_region ?_
    refine s_ hf (r_move hf rfl) fun a hf => ?_
    refine s_ hf (r_move hf rfl) fun a hf => ?_
    refine s_ hf (r_move hf rfl) fun a hf => ?_
    refine s_ hf (r_move hf rfl) fun a hf => ?_
    obtain ⟨hc6, hF⟩ := of_guard hF
    obtain ⟨ad7, c7, he7, hl7⟩ := Ro.el cProd h0 zProd hc6.1 hc6.2
    refine s_ hf (r_idx Try.underlying46 sz128 hf rfl ⟨_, he7⟩ rfl hc6.1 hc6.2) fun a hf => ?_
    refine s_ hf (r_load_agg ty128 hf rfl (hl7.below hw.below) (cProd.len _)) fun a hf => ?_
    obtain ⟨x8, hx9, hF⟩ := of_bind hF
    refine st_fn 3 hw hf rfl rfl (by decide) (r_fn en128 hf rfl) (laws_toProduct_ok  hx9) fun a v w ρ hf hw hE hN hΦ => ?_
    obtain rfl := hΦ
    replace o2 := o2.ext hE
    obtain ⟨hc10, hF⟩ := of_guard hF
    obtain ⟨ad11, hl11⟩ := Ow.ce (d := cProd) o2 zProd hc10.1 hc10.2
    refine s_ hf (r_idx Try.underlying37 sz82 hf rfl hl11.at_ rfl hc10.1 hc10.2) fun a hf => ?_
    refine sk_ hf (r_store_ec (b := x8) zProd hw (by decide) o2 hc10.1 hc10.2 (Lens.id _) hl11.at_ ty82 (by first | rfl | exact Nat.add_assoc _ _ _ | (simp only [Nat.add_assoc]; rfl)) hf rfl rfl rfl) fun a w hf hΦ => ?_
    obtain ⟨hw, hA, o2⟩ := hΦ
    refine c_nil <| n_block <| n_then <| c_region ?_
    refine s_ hf (r_move hf rfl) fun a hf => ?_
    refine s_ hf (r_add hf rfl rfl) fun a hf => ?_
    refine s_ hf (r_assign hf rfl) fun a hf => ?_
    refine c_nil ?_
    obtain rfl := Option.some.inj hF
    exact Rnd.goes ⟨_, hw, hf.sub ⟨rfl, rfl, rfl, trivial⟩, o2⟩
  rintro ⟨s3, s4⟩ a w hs ⟨ρ, hw, hf, o2⟩
  subst hs
  have hF := hG2
  dsimp only at hF
  refine x_block <| n_then <| c_seq <| c_region ?_
  refine s_ hf (r_move hf rfl) fun a hf => ?_
  refine s_ hf (r_assign hf rfl) fun a hf => ?_
  refine c_nt <| c_retc ?_
  obtain rfl := Option.some.inj hF
  refine c_ret hf (res_tmp Try.results83 hf rfl) ?_
  exact ⟨_, rfl, hw.below, ⟨_, rfl, o2.out⟩⟩
/-! f36 -/
noncomputable def laws_toScheme (a0 : Sch) : Option Sch :=
  (laws_toProductS a0.ps).bind fun x1 => some ((⟨a0.p, a0.n, a0.m, a0.k, x1⟩ : Sch))
theorem laws_toScheme_ok {w0 : World} {a0 : Sch} {va0 : Value} (h0 : Ro (kf cProd) w0 va0 a0.ps) {r : Sch} (hF : laws_toScheme a0 = some r) :
    Calls Try.prog 36 [.agg ([vI a0.p, vI a0.n, vI a0.m, vI a0.k, va0]).toArray].toArray w0 fun e w => ∃ v, e = .returned v ∧ Below w0.heap.size w0 w ∧ ∃ u0, .agg [.int .i64 r.p, .int .i64 r.n, .int .i64 r.m, .int .i64 r.k, u0].toArray = v ∧ Fresh (kf cProd) 82 w0 w u0 r.ps := by
  refine calls_of (k := 21) Try.func36 rfl rfl (Nat.le_of_ble_eq_true rfl) fun a hf => ?_
  replace hf : Fr 21 a [(0, .agg ([vI a0.p, vI a0.n, vI a0.m, vI a0.k, va0]).toArray)] := hf
  refine c_start fun w ρ hw => ?_
  unfold laws_toScheme at hF
  refine c_seq <| c_region ?_
  refine sx_ hf (r_box (cs := [vI a0.p, vI a0.n, vI a0.m, vI a0.k, va0]) 1 hw hf rfl rfl) fun a v w hf hΦ => ?_
  obtain ⟨g1, ρ, rfl, hw, hE, o1⟩ := hΦ
  have o3 : Ow (kf cProd) 82 ρ w w0.heap.size 3 (.slice none 0 0) [] := Ow.nil _ _ _ _ _ _
  refine sx_ hf (r_alloc (cs := [vI 0, vI 0, vI 0, vI 0, (.slice none 0 0)]) 2 ze39 rfl hw) fun a v w hf hΦ => ?_
  obtain ⟨g2, ρ, rfl, hw, hE, o2⟩ := hΦ
  replace o1 := o1.ext hE
  replace o3 := o3.ext hE
  refine c_nt <| c_seq <| c_region ?_
  have o5 : Ow (kf cProd) 82 ρ w w0.heap.size 5 (.slice none 0 0) [] := Ow.nil _ _ _ _ _ _
  refine sx_ hf (r_alloc (cs := [vI 0, vI 0, vI 0, vI 0, (.slice none 0 0)]) 4 ze39 rfl hw) fun a v w hf hΦ => ?_
  obtain ⟨g4, ρ, rfl, hw, hE, o4⟩ := hΦ
  replace o1 := o1.ext hE
  replace o3 := o3.ext hE
  replace o2 := o2.ext hE
  replace o5 := o5.ext hE
  refine c_nt <| c_seq <| c_region ?_
  refine s_ hf (r_fa fa48_0 hf rfl) fun a hf => ?_
  refine s_ hf (r_load_cell ty2 hf rfl (o1.cl.at_ 0 _ rfl)) fun a hf => ?_
  refine s_ hf (r_fa fa39_0 hf rfl) fun a hf => ?_
  refine sk_ hf (r_store_c hw o4 (by decide) ty2 (Nat.le_of_ble_eq_true rfl) hf rfl rfl rfl rfl) fun a w hf hΦ => ?_
  obtain ⟨hw, hA, o4⟩ := hΦ
  replace o1 := o1.adv hA (by decide)
  replace o3 := o3.adv hA (by decide)
  replace o2 := o2.adv hA (by decide)
  replace o5 := o5.adv hA (by decide)
  replace o4 : Va ρ w 4 g4 39 ([vI a0.p, vI 0, vI 0, vI 0, (.slice none 0 0)]) := o4
  refine c_nt <| c_seq <| c_region ?_
  refine s_ hf (r_fa fa48_1 hf rfl) fun a hf => ?_
  refine s_ hf (r_load_cell ty2 hf rfl (o1.cl.at_ 1 _ rfl)) fun a hf => ?_
  refine s_ hf (r_fa fa39_1 hf rfl) fun a hf => ?_
  refine sk_ hf (r_store_c hw o4 (by decide) ty2 (Nat.le_of_ble_eq_true rfl) hf rfl rfl rfl rfl) fun a w hf hΦ => ?_
  obtain ⟨hw, hA, o4⟩ := hΦ
  replace o1 := o1.adv hA (by decide)
  replace o3 := o3.adv hA (by decide)
  replace o2 := o2.adv hA (by decide)
  replace o5 := o5.adv hA (by decide)
  replace o4 : Va ρ w 4 g4 39 ([vI a0.p, vI a0.n, vI 0, vI 0, (.slice none 0 0)]) := o4
  refine c_nt <| c_seq <| c_region ?_
  refine s_ hf (r_fa fa48_2 hf rfl) fun a hf => ?_
  refine s_ hf (r_load_cell ty2 hf rfl (o1.cl.at_ 2 _ rfl)) fun a hf => ?_
  refine s_ hf (r_fa fa39_2 hf rfl) fun a hf => ?_
  refine sk_ hf (r_store_c hw o4 (by decide) ty2 (Nat.le_of_ble_eq_true rfl) hf rfl rfl rfl rfl) fun a w hf hΦ => ?_
  obtain ⟨hw, hA, o4⟩ := hΦ
  replace o1 := o1.adv hA (by decide)
  replace o3 := o3.adv hA (by decide)
  replace o2 := o2.adv hA (by decide)
  replace o5 := o5.adv hA (by decide)
  replace o4 : Va ρ w 4 g4 39 ([vI a0.p, vI a0.n, vI a0.m, vI 0, (.slice none 0 0)]) := o4
  refine c_nt <| c_seq <| c_region ?_
  refine s_ hf (r_fa fa48_3 hf rfl) fun a hf => ?_
  refine s_ hf (r_load_cell ty2 hf rfl (o1.cl.at_ 3 _ rfl)) fun a hf => ?_
  refine s_ hf (r_fa fa39_3 hf rfl) fun a hf => ?_
  refine sk_ hf (r_store_c hw o4 (by decide) ty2 (Nat.le_of_ble_eq_true rfl) hf rfl rfl rfl rfl) fun a w hf hΦ => ?_
  obtain ⟨hw, hA, o4⟩ := hΦ
  replace o1 := o1.adv hA (by decide)
  replace o3 := o3.adv hA (by decide)
  replace o2 := o2.adv hA (by decide)
  replace o5 := o5.adv hA (by decide)
  replace o4 : Va ρ w 4 g4 39 ([vI a0.p, vI a0.n, vI a0.m, vI a0.k, (.slice none 0 0)]) := o4
  refine c_nt <| c_seq <| c_region ?_
  refine s_ hf (r_fa fa48_4 hf rfl) fun a hf => ?_
  refine s_ hf (r_load_cell ty46 hf rfl (o1.cl.at_ 4 _ rfl)) fun a hf => ?_
  obtain ⟨x1, hx2, hF⟩ := of_bind hF
  refine st_fn 6 hw hf rfl rfl (by decide) (r_fn en83 hf rfl) (laws_toProductS_ok (h0.now hw) hx2) fun a v w ρ hf hw hE hN hΦ => ?_
  obtain ⟨u3, rfl, hr4⟩ := hΦ
  replace o1 := o1.ext hE
  replace o3 := o3.ext hE
  replace o2 := o2.ext hE
  replace o5 := o5.ext hE
  replace o4 := o4.ext hE
  have o6 := hN hr4
  refine s_ hf (r_fa fa39_4 hf rfl) fun a hf => ?_
  refine sk_ hf (r_store_c hw o4 (by decide) ty37 (Nat.le_of_ble_eq_true rfl) hf rfl rfl o6.ro.cells1 o6.ro.one) fun a w hf hΦ => ?_
  obtain ⟨hw, hA, o4⟩ := hΦ
  replace o1 := o1.adv hA (by decide)
  replace o3 := o3.adv hA (by decide)
  replace o2 := o2.adv hA (by decide)
  replace o5 := o5.adv hA (by decide)
  replace o6 := o6.adv hA (by decide)
  replace o4 : Va ρ w 4 g4 39 ([vI a0.p, vI a0.n, vI a0.m, vI a0.k, u3]) := o4
  refine c_nt <| c_seq <| c_region ?_
  refine s_ hf (r_load_agg ty39 hf rfl o4.cl rfl) fun a hf => ?_
  refine sk_ hf (r_store_w (cs' := [vI a0.p, vI a0.n, vI a0.m, vI a0.k, u3]) hw o2 (by decide) ty39 rfl rfl (one_sch o6.ro.one) hf rfl rfl rfl) fun a w hf hΦ => ?_
  obtain ⟨hw, hA, o2⟩ := hΦ
  replace o1 := o1.adv hA (by decide)
  replace o3 := o3.adv hA (by decide)
  replace o5 := o5.adv hA (by decide)
  replace o4 := o4.adv hA (by decide)
  replace o6 := o6.adv hA (by decide)
  refine c_nt <| c_retc ?_
  obtain rfl := Option.some.inj hF
  refine c_ret hf (res_cell Try.results36 ty39 hf rfl o2.cl rfl) ?_
  exact ⟨_, rfl, hw.below, ⟨_, rfl, o6.out⟩⟩
/-! f176 -/
noncomputable def laws_eqForm_l1 (a0 : Form) (a1 : Form) (s2 : Int) : Option (LR Int Bool) :=
  if (decide (s2 < 9)) = true then (if 0 ≤ s2 ∧ s2 < 9 then (if (decide (((vg 0 a0 s2).toNat : Int) ≠ ((vg 0 a1 s2).toNat : Int))) = true then (some (.ret false)) else (some (.next (w64 (s2 + 1))))) else none) else (some (.stop s2))
noncomputable def laws_eqForm (a0 : Form) (a1 : Form) : Option Bool :=
  (iter (fun s => laws_eqForm_l1 a0 a1 s) 0).bind fun o => match o with | .stop s2 => (some (true)) | .ret r => some r | .next _ => none
theorem laws_eqForm_ok {w0 : World} {a0 : Form} {a1 : Form}   {r : Bool} (hF : laws_eqForm a0 a1 = some r) :
    Calls Try.prog 176 [.agg (cForm.enc a0).toArray, .agg (cForm.enc a1).toArray].toArray w0 fun e w => ∃ v, e = .returned v ∧ Below w0.heap.size w0 w ∧ .bool r = v := by
  refine calls_of (k := 17) Try.func176 rfl rfl (Nat.le_of_ble_eq_true rfl) fun a hf => ?_
  replace hf : Fr 17 a [(0, .agg (cForm.enc a0).toArray), (1, .agg (cForm.enc a1).toArray)] := hf
  refine c_start fun w ρ hw => ?_
  unfold laws_eqForm at hF
  refine c_seq <| c_region ?_
  refine sx_ hf (r_box (cs := cForm.enc a0) 1 hw hf rfl rfl) fun a v w hf hΦ => ?_
  obtain ⟨g1, ρ, rfl, hw, hE, o1⟩ := hΦ
  refine sx_ hf (r_box (cs := cForm.enc a1) 2 hw hf rfl rfl) fun a v w hf hΦ => ?_
  obtain ⟨g2, ρ, rfl, hw, hE, o2⟩ := hΦ
  replace o1 := o1.ext hE
  refine s_ hf (r_assign hf rfl) fun a hf => ?_
  refine c_nt <| c_seq <| c_seq <| c_region ?_
  refine s_ hf (r_assign hf rfl) fun a hf => ?_
  refine c_nt ?_
  obtain ⟨ol1, ho1, hG1⟩ := of_bind hF
  clear hF
  refine c_block (c_loop (id := 0) (fun s => laws_eqForm_l1 a0 a1 s) (fun (s2 : Int) a w => ∃ ρ, Wd w0 ρ w ∧ Fr 17 a [(2, .pointer (some ((⟨g1, 0, none⟩ : Addr).add 0))), (3, .pointer (some ((⟨g2, 0, none⟩ : Addr).add 0))), (5, vI s2)] ∧ Va ρ w 1 g1 80 (cForm.enc a0) ∧ Va ρ w 2 g2 80 (cForm.enc a1)) (fun (s2 : Int) a w => ∃ ρ, Wd w0 ρ w ∧ Fr 17 a []) ho1 ⟨_, hw, hf.sub ⟨rfl, rfl, rfl, trivial⟩, o1, o2⟩ ?_ ?_)
  · rintro s2 lr a w ⟨ρ, hw, hf, o1, o2⟩ hF
    replace hF : laws_eqForm_l1 a0 a1 s2 = some lr := hF
    unfold laws_eqForm_l1 at hF
    refine c_seq <| c_seq <| c_region ?_
    refine s_ hf (r_move hf rfl) fun a hf => ?_
    refine s_ hf (r_lss hf rfl rfl) fun a hf => ?_
    refine c_nt ?_
    rcases of_ite hF with ⟨hb3, hF⟩ | ⟨hb3, hF⟩
    rotate_left
    · refine c_iff hf rfl hb3 <| c_exit <| x_then ?_
      obtain rfl := Option.some.inj hF
      exact Rnd.stops ⟨_, hw, hf.sub trivial⟩
    refine c_ift hf rfl hb3 <| c_skip <| n_then <| c_seq <| c_block <| c_seq ?_
    obtain ⟨hc4, hF⟩ := of_guard hF
    replace hf : Fr 17 a [(2, .pointer (some ((⟨g1, 0, none⟩ : Addr).add 0))), (3, .pointer (some ((⟨g2, 0, none⟩ : Addr).add 0))), (5, vI s2)] := hf.sub ⟨rfl, rfl, rfl, trivial⟩
    refine c_drawL (h := 6) mixed (by kernel_rfl) (by kernel_rfl) (fun ρ w => Va ρ w 1 g1 80 (cForm.enc a0) ∧ Va ρ w 2 g2 80 (cForm.enc a1)) ?_ [fun ρ w v => vI s2 = v, fun ρ w v => .pointer (some ((⟨g1, 0, none⟩ : Addr).add (0 + s2.toNat * 1))) = v, fun ρ w v => vB (vg 0 a0 s2) = v, fun ρ w v => vI s2 = v, fun ρ w v => .pointer (some ((⟨g2, 0, none⟩ : Addr).add (0 + s2.toNat * 1))) = v, fun ρ w v => vB (vg 0 a1 s2) = v] ?_ hw ⟨o1, o2⟩ hf ?_ ?_
    · intro ρ w ρ' w' hE hG
      obtain ⟨o1, o2⟩ := hG
      exact ⟨o1.ext hE, o2.ext hE⟩
    · exact LastsL.cons (fun _ _ _ _ _ _ h => h) <| LastsL.cons (fun _ _ _ _ _ _ h => h) <| LastsL.cons (fun _ _ _ _ _ _ h => h) <| LastsL.cons (fun _ _ _ _ _ _ h => h) <| LastsL.cons (fun _ _ _ _ _ _ h => h) <| LastsL.cons (fun _ _ _ _ _ _ h => h) <| LastsL.nil
    · refine StepsB.cons ?_ <| StepsB.cons ?_ <| StepsB.cons ?_ <| StepsB.cons ?_ <| StepsB.cons ?_ <| StepsB.cons ?_ <| StepsB.nil
      · intro ρ w a hw hG hf hd K hK
        obtain ⟨o1, o2⟩ := hG
        exact dv_ hK hw (wn rfl) (r_move hf rfl) rfl
      · intro ρ w a hw hG hf hd K hK
        obtain ⟨o1, o2⟩ := hG
        obtain ⟨_, hf, rfl⟩ := got (hd 0 (by kernel_rfl)) hf
        exact dv_ hK hw (wn rfl) (r_indexAddr_arr Try.underlying80 sz5 hf rfl rfl hc4.1 hc4.2) rfl
      · intro ρ w a hw hG hf hd K hK
        obtain ⟨o1, o2⟩ := hG
        obtain ⟨_, hf, rfl⟩ := got (hd 1 (by kernel_rfl)) hf
        exact dv_ hK hw (wn rfl) (r_load_cell ty5 hf rfl (o1.cl.lens (Lens.vec 0 fU8 s2 hc4.1 hc4.2))) rfl
      · intro ρ w a hw hG hf hd K hK
        obtain ⟨o1, o2⟩ := hG
        exact dv_ hK hw (wn rfl) (r_move hf rfl) rfl
      · intro ρ w a hw hG hf hd K hK
        obtain ⟨o1, o2⟩ := hG
        obtain ⟨_, hf, rfl⟩ := got (hd 3 (by kernel_rfl)) hf
        exact dv_ hK hw (wn rfl) (r_indexAddr_arr Try.underlying80 sz5 hf rfl rfl hc4.1 hc4.2) rfl
      · intro ρ w a hw hG hf hd K hK
        obtain ⟨o1, o2⟩ := hG
        obtain ⟨_, hf, rfl⟩ := got (hd 4 (by kernel_rfl)) hf
        exact dv_ hK hw (wn rfl) (r_load_cell ty5 hf rfl (o2.cl.lens (Lens.vec 0 fU8 s2 hc4.1 hc4.2))) rfl
    intro ρ w a hw hG hf hd
    obtain ⟨o1, o2⟩ := hG
    obtain ⟨_, hf, rfl⟩ := got (hd 2 (by decide)) hf
    obtain ⟨_, hf, rfl⟩ := got (hd 5 (by decide)) hf
    refine s_ hf (r_neq hf rfl rfl) fun a hf => ?_
    refine c_nt ?_
    rcases of_ite hF with ⟨hb5, hF⟩ | ⟨hb5, hF⟩
    rotate_left
    · refine c_iff hf rfl hb5 <| c_skip <| n_block <| n_then <| c_region ?_
      refine s_ hf (r_move hf rfl) fun a hf => ?_
      refine s_ hf (r_add hf rfl rfl) fun a hf => ?_
      refine s_ hf (r_assign hf rfl) fun a hf => ?_
      refine c_nil ?_
      obtain rfl := Option.some.inj hF
      exact Rnd.goes ⟨_, hw, hf.sub ⟨rfl, rfl, rfl, trivial⟩, o1, o2⟩
    refine c_ift hf rfl hb5 <| c_seq <| c_region ?_
    refine s_ hf (r_assign hf rfl) fun a hf => ?_
    refine c_nt <| c_retc ?_
    obtain rfl := Option.some.inj hF
    refine r_block <| r_then ?_
    refine Rnd.rets fun ho => ?_
    subst ho
    have hF := hG1
    dsimp only at hF
    obtain rfl := Option.some.inj hF
    refine r_block <| r_then <| c_ret hf (res_tmp Try.results176 hf rfl) ?_
    exact ⟨_, rfl, hw.below, rfl⟩
  rintro s2 a w hs ⟨ρ, hw, hf⟩
  subst hs
  have hF := hG1
  dsimp only at hF
  refine x_block <| n_then <| c_seq <| c_region ?_
  refine s_ hf (r_assign hf rfl) fun a hf => ?_
  refine c_nt <| c_retc ?_
  obtain rfl := Option.some.inj hF
  refine c_ret hf (res_tmp Try.results176 hf rfl) ?_
  exact ⟨_, rfl, hw.below, rfl⟩
/-! f135 -/
noncomputable def laws_eqProduct (a0 : Prod) (a1 : Prod) : Option Bool :=
  (laws_eqForm a0.1 a1.1).bind fun x1 => if (!x1) = true then (some (false)) else ((laws_eqForm a0.2.1 a1.2.1).bind fun x4 => if (!x4) = true then (some (false)) else ((laws_eqForm a0.2.2 a1.2.2).bind fun x7 => if (!x7) = true then (some (false)) else (some (true))))
theorem laws_eqProduct_ok {w0 : World} {a0 : Prod} {a1 : Prod}   {r : Bool} (hF : laws_eqProduct a0 a1 = some r) :
    Calls Try.prog 135 [.agg (cProd.enc a0).toArray, .agg (cProd.enc a1).toArray].toArray w0 fun e w => ∃ v, e = .returned v ∧ Below w0.heap.size w0 w ∧ .bool r = v := by
  refine calls_of (k := 23) Try.func135 rfl rfl (Nat.le_of_ble_eq_true rfl) fun a hf => ?_
  replace hf : Fr 23 a [(0, .agg (cProd.enc a0).toArray), (1, .agg (cProd.enc a1).toArray)] := hf
  refine c_start fun w ρ hw => ?_
  unfold laws_eqProduct at hF
  refine c_seq <| c_region ?_
  refine sx_ hf (r_box (cs := cProd.enc a0) 1 hw hf rfl rfl) fun a v w hf hΦ => ?_
  obtain ⟨g1, ρ, rfl, hw, hE, o1⟩ := hΦ
  refine sx_ hf (r_box (cs := cProd.enc a1) 2 hw hf rfl rfl) fun a v w hf hΦ => ?_
  obtain ⟨g2, ρ, rfl, hw, hE, o2⟩ := hΦ
  replace o1 := o1.ext hE
  refine s_ hf (r_assign hf rfl) fun a hf => ?_
  refine c_nt <| c_seq <| c_seq <| c_region ?_
  refine s_ hf (r_fa fa82_0 hf rfl) fun a hf => ?_
  refine s_ hf (r_load_agg ty80 hf rfl (o1.cl.lens lProd_0) (cForm.len _)) fun a hf => ?_
  refine s_ hf (r_fa fa82_0 hf rfl) fun a hf => ?_
  refine s_ hf (r_load_agg ty80 hf rfl (o2.cl.lens lProd_0) (cForm.len _)) fun a hf => ?_
  obtain ⟨x1, hx2, hF⟩ := of_bind hF
  refine st_fn 3 hw hf rfl rfl (by decide) (r_fn en176 hf rfl) (laws_eqForm_ok  hx2) fun a v w ρ hf hw hE hN hΦ => ?_
  obtain rfl := hΦ
  replace o1 := o1.ext hE
  replace o2 := o2.ext hE
  refine s_ hf (r_not hf rfl) fun a hf => ?_
  refine c_nt ?_
  rcases of_ite hF with ⟨hb3, hF⟩ | ⟨hb3, hF⟩
  · refine c_ift hf rfl hb3 <| c_seq <| c_region ?_
    refine s_ hf (r_assign hf rfl) fun a hf => ?_
    refine c_nt <| c_retc ?_
    obtain rfl := Option.some.inj hF
    refine r_then <| c_ret hf (res_tmp Try.results135 hf rfl) ?_
    exact ⟨_, rfl, hw.below, rfl⟩
  refine c_iff hf rfl hb3 <| c_skip <| n_then <| c_seq <| c_seq <| c_region ?_
  refine s_ hf (r_fa fa82_1 hf rfl) fun a hf => ?_
  refine s_ hf (r_load_agg ty80 hf rfl (o1.cl.lens lProd_1) (cForm.len _)) fun a hf => ?_
  refine s_ hf (r_fa fa82_1 hf rfl) fun a hf => ?_
  refine s_ hf (r_load_agg ty80 hf rfl (o2.cl.lens lProd_1) (cForm.len _)) fun a hf => ?_
  obtain ⟨x4, hx5, hF⟩ := of_bind hF
  refine st_fn 4 hw hf rfl rfl (by decide) (r_fn en176 hf rfl) (laws_eqForm_ok  hx5) fun a v w ρ hf hw hE hN hΦ => ?_
  obtain rfl := hΦ
  replace o1 := o1.ext hE
  replace o2 := o2.ext hE
  refine s_ hf (r_not hf rfl) fun a hf => ?_
  refine c_nt ?_
  rcases of_ite hF with ⟨hb6, hF⟩ | ⟨hb6, hF⟩
  · refine c_ift hf rfl hb6 <| c_seq <| c_region ?_
    refine s_ hf (r_assign hf rfl) fun a hf => ?_
    refine c_nt <| c_retc ?_
    obtain rfl := Option.some.inj hF
    refine r_then <| c_ret hf (res_tmp Try.results135 hf rfl) ?_
    exact ⟨_, rfl, hw.below, rfl⟩
  refine c_iff hf rfl hb6 <| c_skip <| n_then <| c_seq <| c_seq <| c_region ?_
  refine s_ hf (r_fa fa82_2 hf rfl) fun a hf => ?_
  refine s_ hf (r_load_agg ty80 hf rfl (o1.cl.lens lProd_2) (cForm.len _)) fun a hf => ?_
  refine s_ hf (r_fa fa82_2 hf rfl) fun a hf => ?_
  refine s_ hf (r_load_agg ty80 hf rfl (o2.cl.lens lProd_2) (cForm.len _)) fun a hf => ?_
  obtain ⟨x7, hx8, hF⟩ := of_bind hF
  refine st_fn 5 hw hf rfl rfl (by decide) (r_fn en176 hf rfl) (laws_eqForm_ok  hx8) fun a v w ρ hf hw hE hN hΦ => ?_
  obtain rfl := hΦ
  replace o1 := o1.ext hE
  replace o2 := o2.ext hE
  refine s_ hf (r_not hf rfl) fun a hf => ?_
  refine c_nt ?_
  rcases of_ite hF with ⟨hb9, hF⟩ | ⟨hb9, hF⟩
  · refine c_ift hf rfl hb9 <| c_seq <| c_region ?_
    refine s_ hf (r_assign hf rfl) fun a hf => ?_
    refine c_nt <| c_retc ?_
    obtain rfl := Option.some.inj hF
    refine r_then <| c_ret hf (res_tmp Try.results135 hf rfl) ?_
    exact ⟨_, rfl, hw.below, rfl⟩
  refine c_iff hf rfl hb9 <| c_skip <| n_then <| c_seq <| c_region ?_
  refine s_ hf (r_assign hf rfl) fun a hf => ?_
  refine c_nt <| c_retc ?_
  obtain rfl := Option.some.inj hF
  refine c_ret hf (res_tmp Try.results135 hf rfl) ?_
  exact ⟨_, rfl, hw.below, rfl⟩
/-! f89 -/
noncomputable def laws_eqProductS_l2 (a0 : List Prod) (a1 : List Prod) (s3 : Int) : Option (LR Int Bool) :=
  if (decide (s3 < (a0.length : Int))) = true then (if 0 ≤ s3 ∧ s3 < (a0.length : Int) then (if 0 ≤ s3 ∧ s3 < (a1.length : Int) then ((laws_eqProduct (gl zProd a0 s3) (gl zProd a1 s3)).bind fun x9 => if (!x9) = true then (some (.ret false)) else (some (.next (w64 (s3 + 1))))) else none) else none) else (some (.stop s3))
noncomputable def laws_eqProductS (a0 : List Prod) (a1 : List Prod) : Option Bool :=
  if (decide ((a0.length : Int) ≠ (a1.length : Int))) = true then (some (false)) else ((iter (fun s => laws_eqProductS_l2 a0 a1 s) 0).bind fun o => match o with | .stop s3 => (some (true)) | .ret r => some r | .next _ => none)
theorem laws_eqProductS_ok {w0 : World} {a0 : List Prod} {a1 : List Prod} {va0 : Value} {va1 : Value} (h0 : Ro (kf cProd) w0 va0 a0) (h1 : Ro (kf cProd) w0 va1 a1) {r : Bool} (hF : laws_eqProductS a0 a1 = some r) :
    Calls Try.prog 89 [va0, va1].toArray w0 fun e w => ∃ v, e = .returned v ∧ Below w0.heap.size w0 w ∧ .bool r = v := by
  refine calls_of (k := 27) Try.func89 rfl rfl (Nat.le_of_ble_eq_true rfl) fun a hf => ?_
  replace hf : Fr 27 a [(0, va0), (1, va1)] := hf
  refine c_start fun w ρ hw => ?_
  unfold laws_eqProductS at hF
  refine c_seq <| c_region ?_
  refine s_ hf (r_assign hf rfl) fun a hf => ?_
  refine c_nt <| c_seq <| c_seq <| c_region ?_
  refine s_ hf (r_move hf rfl) fun a hf => ?_
  refine s_ hf (r_len Try.underlying37 (h0.now hw) hf rfl) fun a hf => ?_
  refine s_ hf (r_move hf rfl) fun a hf => ?_
  refine s_ hf (r_len Try.underlying37 (h1.now hw) hf rfl) fun a hf => ?_
  refine s_ hf (r_neq hf rfl rfl) fun a hf => ?_
  refine c_nt ?_
  rcases of_ite hF with ⟨hb1, hF⟩ | ⟨hb1, hF⟩
  · refine c_ift hf rfl hb1 <| c_seq <| c_region ?_
    refine s_ hf (r_assign hf rfl) fun a hf => ?_
    refine c_nt <| c_retc ?_
    obtain rfl := Option.some.inj hF
    refine r_then <| c_ret hf (res_tmp Try.results89 hf rfl) ?_
    exact ⟨_, rfl, hw.below, rfl⟩
  refine c_iff hf rfl hb1 <| c_skip <| n_then <| c_seq <| c_seq <| c_region ?_
  refine s_ hf (r_assign hf rfl) fun a hf => ?_
  refine c_nt ?_
  obtain ⟨ol2, ho2, hG2⟩ := of_bind hF
  clear hF
  refine c_block (c_loop (id := 0) (fun s => laws_eqProductS_l2 a0 a1 s) (fun (s3 : Int) a w => ∃ ρ, Wd w0 ρ w ∧ Fr 27 a [(0, va0), (1, va1), (5, vI s3)]) (fun (s3 : Int) a w => ∃ ρ, Wd w0 ρ w ∧ Fr 27 a []) ho2 ⟨_, hw, hf.sub ⟨rfl, rfl, rfl, trivial⟩⟩ ?_ ?_)
  · rintro s3 lr a w ⟨ρ, hw, hf⟩ hF
    replace hF : laws_eqProductS_l2 a0 a1 s3 = some lr := hF
    unfold laws_eqProductS_l2 at hF
    refine c_seq <| c_seq <| c_region ?_
    refine s_ hf (r_move hf rfl) fun a hf => ?_
    refine s_ hf (r_move hf rfl) fun a hf => ?_
    refine s_ hf (r_len Try.underlying37 (h0.now hw) hf rfl) fun a hf => ?_
    refine s_ hf (r_lss hf rfl rfl) fun a hf => ?_
    refine c_nt ?_
    rcases of_ite hF with ⟨hb4, hF⟩ | ⟨hb4, hF⟩
    rotate_left
    · refine c_iff hf rfl hb4 <| c_exit <| x_then ?_
      obtain rfl := Option.some.inj hF
      exact Rnd.stops ⟨_, hw, hf.sub trivial⟩
    refine c_ift hf rfl hb4 <| c_skip <| n_then <| c_seq <| c_block <| c_seq ?_
    obtain ⟨hc5, hF⟩ := of_guard hF
    obtain ⟨ad6, c6, he6, hl6⟩ := Ro.el cProd h0 zProd hc5.1 hc5.2
    obtain ⟨hc7, hF⟩ := of_guard hF
    obtain ⟨ad8, c8, he8, hl8⟩ := Ro.el cProd h1 zProd hc7.1 hc7.2
    replace hf : Fr 27 a [(0, va0), (1, va1), (5, vI s3)] := hf.sub ⟨rfl, rfl, rfl, trivial⟩
    refine c_drawL (h := 8) mixed (by kernel_rfl) (by kernel_rfl) (fun ρ w => True) ?_ [fun ρ w v => va0 = v, fun ρ w v => vI s3 = v, fun ρ w v => .pointer (some (ad6.add (s3.toNat * 27))) = v, fun ρ w v => .agg (cProd.enc (gl zProd a0 s3)).toArray = v, fun ρ w v => va1 = v, fun ρ w v => vI s3 = v, fun ρ w v => .pointer (some (ad8.add (s3.toNat * 27))) = v, fun ρ w v => .agg (cProd.enc (gl zProd a1 s3)).toArray = v] ?_ hw trivial hf ?_ ?_
    · intro ρ w ρ' w' hE hG
      skip
      exact trivial
    · exact LastsL.cons (fun _ _ _ _ _ _ h => h) <| LastsL.cons (fun _ _ _ _ _ _ h => h) <| LastsL.cons (fun _ _ _ _ _ _ h => h) <| LastsL.cons (fun _ _ _ _ _ _ h => h) <| LastsL.cons (fun _ _ _ _ _ _ h => h) <| LastsL.cons (fun _ _ _ _ _ _ h => h) <| LastsL.cons (fun _ _ _ _ _ _ h => h) <| LastsL.cons (fun _ _ _ _ _ _ h => h) <| LastsL.nil
    · refine StepsB.cons ?_ <| StepsB.cons ?_ <| StepsB.cons ?_ <| StepsB.cons ?_ <| StepsB.cons ?_ <| StepsB.cons ?_ <| StepsB.cons ?_ <| StepsB.cons ?_ <| StepsB.nil
      · intro ρ w a hw hG hf hd K hK
        exact dv_ hK hw (wn rfl) (r_move hf rfl) rfl
      · intro ρ w a hw hG hf hd K hK
        exact dv_ hK hw (wn rfl) (r_move hf rfl) rfl
      · intro ρ w a hw hG hf hd K hK
        obtain ⟨_, hf, rfl⟩ := got (hd 0 (by kernel_rfl)) hf
        obtain ⟨_, hf, rfl⟩ := got (hd 1 (by kernel_rfl)) hf
        exact dv_ hK hw (wn rfl) (r_idx Try.underlying37 sz82 hf rfl ⟨_, he6⟩ rfl hc5.1 hc5.2) rfl
      · intro ρ w a hw hG hf hd K hK
        obtain ⟨_, hf, rfl⟩ := got (hd 2 (by kernel_rfl)) hf
        exact dv_ hK hw (wn rfl) (r_load_agg ty82 hf rfl (hl6.below hw.below) (cProd.len _)) rfl
      · intro ρ w a hw hG hf hd K hK
        exact dv_ hK hw (wn rfl) (r_move hf rfl) rfl
      · intro ρ w a hw hG hf hd K hK
        exact dv_ hK hw (wn rfl) (r_move hf rfl) rfl
      · intro ρ w a hw hG hf hd K hK
        obtain ⟨_, hf, rfl⟩ := got (hd 4 (by kernel_rfl)) hf
        obtain ⟨_, hf, rfl⟩ := got (hd 5 (by kernel_rfl)) hf
        exact dv_ hK hw (wn rfl) (r_idx Try.underlying37 sz82 hf rfl ⟨_, he8⟩ rfl hc7.1 hc7.2) rfl
      · intro ρ w a hw hG hf hd K hK
        obtain ⟨_, hf, rfl⟩ := got (hd 6 (by kernel_rfl)) hf
        exact dv_ hK hw (wn rfl) (r_load_agg ty82 hf rfl (hl8.below hw.below) (cProd.len _)) rfl
    intro ρ w a hw hG hf hd
    obtain ⟨_, hf, rfl⟩ := got (hd 3 (by decide)) hf
    obtain ⟨_, hf, rfl⟩ := got (hd 7 (by decide)) hf
    obtain ⟨x9, hx10, hF⟩ := of_bind hF
    refine st_fn 1 hw hf rfl rfl (by decide) (r_fn en135 hf rfl) (laws_eqProduct_ok  hx10) fun a v w ρ hf hw hE hN hΦ => ?_
    obtain rfl := hΦ
    refine s_ hf (r_not hf rfl) fun a hf => ?_
    refine c_nt ?_
    rcases of_ite hF with ⟨hb11, hF⟩ | ⟨hb11, hF⟩
    rotate_left
    · refine c_iff hf rfl hb11 <| c_skip <| n_block <| n_then <| c_region ?_
      refine s_ hf (r_move hf rfl) fun a hf => ?_
      refine s_ hf (r_add hf rfl rfl) fun a hf => ?_
      refine s_ hf (r_assign hf rfl) fun a hf => ?_
      refine c_nil ?_
      obtain rfl := Option.some.inj hF
      exact Rnd.goes ⟨_, hw, hf.sub ⟨rfl, rfl, rfl, trivial⟩⟩
    refine c_ift hf rfl hb11 <| c_seq <| c_region ?_
    refine s_ hf (r_assign hf rfl) fun a hf => ?_
    refine c_nt <| c_retc ?_
    obtain rfl := Option.some.inj hF
    refine r_block <| r_then ?_
    refine Rnd.rets fun ho => ?_
    subst ho
    have hF := hG2
    dsimp only at hF
    obtain rfl := Option.some.inj hF
    refine r_block <| r_then <| c_ret hf (res_tmp Try.results89 hf rfl) ?_
    exact ⟨_, rfl, hw.below, rfl⟩
  rintro s3 a w hs ⟨ρ, hw, hf⟩
  subst hs
  have hF := hG2
  dsimp only at hF
  refine x_block <| n_then <| c_seq <| c_region ?_
  refine s_ hf (r_assign hf rfl) fun a hf => ?_
  refine c_nt <| c_retc ?_
  obtain rfl := Option.some.inj hF
  refine c_ret hf (res_tmp Try.results89 hf rfl) ?_
  exact ⟨_, rfl, hw.below, rfl⟩
/-! f39 -/
noncomputable def laws_eqScheme (a0 : Sch) (a1 : Sch) : Option Bool :=
  if (decide (a0.p ≠ a1.p)) = true then (some (false)) else (if (decide (a0.n ≠ a1.n)) = true then (some (false)) else (if (decide (a0.m ≠ a1.m)) = true then (some (false)) else (if (decide (a0.k ≠ a1.k)) = true then (some (false)) else ((laws_eqProductS a0.ps a1.ps).bind fun x5 => if (!x5) = true then (some (false)) else (some (true))))))
theorem laws_eqScheme_ok {w0 : World} {a0 : Sch} {a1 : Sch} {va0 : Value} {va1 : Value} (h0 : Ro (kf cProd) w0 va0 a0.ps) (h1 : Ro (kf cProd) w0 va1 a1.ps) {r : Bool} (hF : laws_eqScheme a0 a1 = some r) :
    Calls Try.prog 39 [.agg ([vI a0.p, vI a0.n, vI a0.m, vI a0.k, va0]).toArray, .agg ([vI a1.p, vI a1.n, vI a1.m, vI a1.k, va1]).toArray].toArray w0 fun e w => ∃ v, e = .returned v ∧ Below w0.heap.size w0 w ∧ .bool r = v := by
  refine calls_of (k := 31) Try.func39 rfl rfl (Nat.le_of_ble_eq_true rfl) fun a hf => ?_
  replace hf : Fr 31 a [(0, .agg ([vI a0.p, vI a0.n, vI a0.m, vI a0.k, va0]).toArray), (1, .agg ([vI a1.p, vI a1.n, vI a1.m, vI a1.k, va1]).toArray)] := hf
  refine c_start fun w ρ hw => ?_
  unfold laws_eqScheme at hF
  refine c_seq <| c_region ?_
  refine sx_ hf (r_box (cs := [vI a0.p, vI a0.n, vI a0.m, vI a0.k, va0]) 1 hw hf rfl rfl) fun a v w hf hΦ => ?_
  obtain ⟨g1, ρ, rfl, hw, hE, o1⟩ := hΦ
  refine sx_ hf (r_box (cs := [vI a1.p, vI a1.n, vI a1.m, vI a1.k, va1]) 2 hw hf rfl rfl) fun a v w hf hΦ => ?_
  obtain ⟨g2, ρ, rfl, hw, hE, o2⟩ := hΦ
  replace o1 := o1.ext hE
  refine s_ hf (r_assign hf rfl) fun a hf => ?_
  refine c_nt <| c_seq <| c_seq <| c_region ?_
  refine s_ hf (r_fa fa39_0 hf rfl) fun a hf => ?_
  refine s_ hf (r_load_cell ty2 hf rfl (o1.cl.at_ 0 _ rfl)) fun a hf => ?_
  refine s_ hf (r_fa fa39_0 hf rfl) fun a hf => ?_
  refine s_ hf (r_load_cell ty2 hf rfl (o2.cl.at_ 0 _ rfl)) fun a hf => ?_
  refine s_ hf (r_neq hf rfl rfl) fun a hf => ?_
  refine c_nt ?_
  rcases of_ite hF with ⟨hb1, hF⟩ | ⟨hb1, hF⟩
  · refine c_ift hf rfl hb1 <| c_seq <| c_region ?_
    refine s_ hf (r_assign hf rfl) fun a hf => ?_
    refine c_nt <| c_retc ?_
    obtain rfl := Option.some.inj hF
    refine r_then <| c_ret hf (res_tmp Try.results39 hf rfl) ?_
    exact ⟨_, rfl, hw.below, rfl⟩
  refine c_iff hf rfl hb1 <| c_skip <| n_then <| c_seq <| c_seq <| c_region ?_
  refine s_ hf (r_fa fa39_1 hf rfl) fun a hf => ?_
  refine s_ hf (r_load_cell ty2 hf rfl (o1.cl.at_ 1 _ rfl)) fun a hf => ?_
  refine s_ hf (r_fa fa39_1 hf rfl) fun a hf => ?_
  refine s_ hf (r_load_cell ty2 hf rfl (o2.cl.at_ 1 _ rfl)) fun a hf => ?_
  refine s_ hf (r_neq hf rfl rfl) fun a hf => ?_
  refine c_nt ?_
  rcases of_ite hF with ⟨hb2, hF⟩ | ⟨hb2, hF⟩
  · refine c_ift hf rfl hb2 <| c_seq <| c_region ?_
    refine s_ hf (r_assign hf rfl) fun a hf => ?_
    refine c_nt <| c_retc ?_
    obtain rfl := Option.some.inj hF
    refine r_then <| c_ret hf (res_tmp Try.results39 hf rfl) ?_
    exact ⟨_, rfl, hw.below, rfl⟩
  refine c_iff hf rfl hb2 <| c_skip <| n_then <| c_seq <| c_seq <| c_region ?_
  refine s_ hf (r_fa fa39_2 hf rfl) fun a hf => ?_
  refine s_ hf (r_load_cell ty2 hf rfl (o1.cl.at_ 2 _ rfl)) fun a hf => ?_
  refine s_ hf (r_fa fa39_2 hf rfl) fun a hf => ?_
  refine s_ hf (r_load_cell ty2 hf rfl (o2.cl.at_ 2 _ rfl)) fun a hf => ?_
  refine s_ hf (r_neq hf rfl rfl) fun a hf => ?_
  refine c_nt ?_
  rcases of_ite hF with ⟨hb3, hF⟩ | ⟨hb3, hF⟩
  · refine c_ift hf rfl hb3 <| c_seq <| c_region ?_
    refine s_ hf (r_assign hf rfl) fun a hf => ?_
    refine c_nt <| c_retc ?_
    obtain rfl := Option.some.inj hF
    refine r_then <| c_ret hf (res_tmp Try.results39 hf rfl) ?_
    exact ⟨_, rfl, hw.below, rfl⟩
  refine c_iff hf rfl hb3 <| c_skip <| n_then <| c_seq <| c_seq <| c_region ?_
  refine s_ hf (r_fa fa39_3 hf rfl) fun a hf => ?_
  refine s_ hf (r_load_cell ty2 hf rfl (o1.cl.at_ 3 _ rfl)) fun a hf => ?_
  refine s_ hf (r_fa fa39_3 hf rfl) fun a hf => ?_
  refine s_ hf (r_load_cell ty2 hf rfl (o2.cl.at_ 3 _ rfl)) fun a hf => ?_
  refine s_ hf (r_neq hf rfl rfl) fun a hf => ?_
  refine c_nt ?_
  rcases of_ite hF with ⟨hb4, hF⟩ | ⟨hb4, hF⟩
  · refine c_ift hf rfl hb4 <| c_seq <| c_region ?_
    refine s_ hf (r_assign hf rfl) fun a hf => ?_
    refine c_nt <| c_retc ?_
    obtain rfl := Option.some.inj hF
    refine r_then <| c_ret hf (res_tmp Try.results39 hf rfl) ?_
    exact ⟨_, rfl, hw.below, rfl⟩
  refine c_iff hf rfl hb4 <| c_skip <| n_then <| c_seq <| c_seq <| c_region ?_
  refine s_ hf (r_fa fa39_4 hf rfl) fun a hf => ?_
  refine s_ hf (r_load_cell ty37 hf rfl (o1.cl.at_ 4 _ rfl)) fun a hf => ?_
  refine s_ hf (r_fa fa39_4 hf rfl) fun a hf => ?_
  refine s_ hf (r_load_cell ty37 hf rfl (o2.cl.at_ 4 _ rfl)) fun a hf => ?_
  obtain ⟨x5, hx6, hF⟩ := of_bind hF
  refine st_fn 3 hw hf rfl rfl (by decide) (r_fn en89 hf rfl) (laws_eqProductS_ok (h0.now hw) (h1.now hw) hx6) fun a v w ρ hf hw hE hN hΦ => ?_
  obtain rfl := hΦ
  replace o1 := o1.ext hE
  replace o2 := o2.ext hE
  refine s_ hf (r_not hf rfl) fun a hf => ?_
  refine c_nt ?_
  rcases of_ite hF with ⟨hb7, hF⟩ | ⟨hb7, hF⟩
  · refine c_ift hf rfl hb7 <| c_seq <| c_region ?_
    refine s_ hf (r_assign hf rfl) fun a hf => ?_
    refine c_nt <| c_retc ?_
    obtain rfl := Option.some.inj hF
    refine r_then <| c_ret hf (res_tmp Try.results39 hf rfl) ?_
    exact ⟨_, rfl, hw.below, rfl⟩
  refine c_iff hf rfl hb7 <| c_skip <| n_then <| c_seq <| c_region ?_
  refine s_ hf (r_assign hf rfl) fun a hf => ?_
  refine c_nt <| c_retc ?_
  obtain rfl := Option.some.inj hF
  refine c_ret hf (res_tmp Try.results39 hf rfl) ?_
  exact ⟨_, rfl, hw.below, rfl⟩
/-! f62 -/
noncomputable def impl_isPrime (a0 : Int) : Option Bool :=
  (if (decide (a0 = 2)) = true then (some true) else (if (decide (a0 = 3)) = true then (some true) else (some (decide (a0 = 5))))).bind fun (s2 : Bool) => some (s2)
theorem impl_isPrime_ok {w0 : World} {a0 : Int}   {r : Bool} (hF : impl_isPrime a0 = some r) :
    Calls Try.prog 62 [vI a0].toArray w0 fun e w => ∃ v, e = .returned v ∧ Below w0.heap.size w0 w ∧ .bool r = v := by
  refine calls_of (k := 13) Try.func62 rfl rfl (Nat.le_of_ble_eq_true rfl) fun a hf => ?_
  replace hf : Fr 13 a [(0, vI a0)] := hf
  refine c_start fun w ρ hw => ?_
  unfold impl_isPrime at hF
  refine c_seq <| c_region ?_
  refine s_ hf (r_assign hf rfl) fun a hf => ?_
  refine c_nt <| c_seq ?_
  obtain ⟨s2, hT1, hG1⟩ := of_bind hF
  clear hF
  refine c_meet (fun (s2 : Bool) a w => ∃ ρ, Wd w0 ρ w ∧ Fr 13 a [(2, .bool s2)]) s2 ?_ ?_
  · have hF := hT1
    refine c_region ?_
    refine s_ hf (r_move hf rfl) fun a hf => ?_
    refine s_ hf (r_eql hf rfl rfl) fun a hf => ?_
    refine s_ hf (r_move hf rfl) fun a hf => ?_
    rcases of_ite hF with ⟨hb3, hF⟩ | ⟨hb3, hF⟩
    · refine st_no (b := true) hf rfl rfl rfl hb3 rfl (by decide) fun a hf => ?_
      refine st_no (b := true) hf rfl rfl rfl hb3 rfl (by decide) fun a hf => ?_
      refine s_ hf (r_pick (b := true) hf rfl hb3 rfl) fun a hf => ?_
      refine s_ hf (r_move hf rfl) fun a hf => ?_
      refine st_no (b := true) hf rfl rfl rfl rfl rfl (by decide) fun a hf => ?_
      refine st_no (b := true) hf rfl rfl rfl rfl rfl (by decide) fun a hf => ?_
      refine s_ hf (r_pick (b := true) hf rfl rfl rfl) fun a hf => ?_
      refine s_ hf (r_assign hf rfl) fun a hf => ?_
      refine c_nil ⟨rfl, ?_⟩
      obtain rfl := Option.some.inj hF
      exact ⟨_, hw, hf.sub ⟨rfl, trivial⟩⟩
    refine st_g (b := false) hf rfl rfl rfl hb3 rfl (by decide) (r_move hf rfl) fun a hf => ?_
    refine st_g (b := false) hf rfl rfl rfl hb3 rfl (by decide) (r_eql hf rfl rfl) fun a hf => ?_
    refine s_ hf (r_pick (b := false) hf rfl hb3 rfl) fun a hf => ?_
    refine s_ hf (r_move hf rfl) fun a hf => ?_
    rcases of_ite hF with ⟨hb4, hF⟩ | ⟨hb4, hF⟩
    · refine st_no (b := true) hf rfl rfl rfl hb4 rfl (by decide) fun a hf => ?_
      refine st_no (b := true) hf rfl rfl rfl hb4 rfl (by decide) fun a hf => ?_
      refine s_ hf (r_pick (b := true) hf rfl hb4 rfl) fun a hf => ?_
      refine s_ hf (r_assign hf rfl) fun a hf => ?_
      refine c_nil ⟨rfl, ?_⟩
      obtain rfl := Option.some.inj hF
      exact ⟨_, hw, hf.sub ⟨rfl, trivial⟩⟩
    refine st_g (b := false) hf rfl rfl rfl hb4 rfl (by decide) (r_move hf rfl) fun a hf => ?_
    refine st_g (b := false) hf rfl rfl rfl hb4 rfl (by decide) (r_eql hf rfl rfl) fun a hf => ?_
    refine s_ hf (r_pick (b := false) hf rfl hb4 rfl) fun a hf => ?_
    refine s_ hf (r_assign hf rfl) fun a hf => ?_
    refine c_nil ⟨rfl, ?_⟩
    obtain rfl := Option.some.inj hF
    exact ⟨_, hw, hf.sub ⟨rfl, trivial⟩⟩
  rintro a w ⟨ρ, hw, hf⟩
  have hF := hG1
  refine n_then <| c_retc ?_
  obtain rfl := Option.some.inj hF
  refine c_ret hf (res_tmp Try.results62 hf rfl) ?_
  exact ⟨_, rfl, hw.below, rfl⟩
/-! f63 -/
noncomputable def impl_isSize_l1 (a0 : List Int) (s2 : Int) : Option (LR Int Bool) :=
  if (decide (s2 < (a0.length : Int))) = true then (if 0 ≤ s2 ∧ s2 < (a0.length : Int) then ((if (decide ((gl 0 a0 s2) < 1)) = true then (some true) else (some (decide (3 < (gl 0 a0 s2))))).bind fun (s7 : Bool) => if s7 = true then (some (.ret false)) else (some (.next (w64 (s2 + 1))))) else none) else (some (.stop s2))
noncomputable def impl_isSize (a0 : List Int) : Option Bool :=
  (iter (fun s => impl_isSize_l1 a0 s) 0).bind fun o => match o with | .stop s2 => (some (true)) | .ret r => some r | .next _ => none
theorem impl_isSize_ok {w0 : World} {a0 : List Int} {va0 : Value} (h0 : Ro (kf fI64) w0 va0 a0) {r : Bool} (hF : impl_isSize a0 = some r) :
    Calls Try.prog 63 [va0].toArray w0 fun e w => ∃ v, e = .returned v ∧ Below w0.heap.size w0 w ∧ .bool r = v := by
  refine calls_of (k := 18) Try.func63 rfl rfl (Nat.le_of_ble_eq_true rfl) fun a hf => ?_
  replace hf : Fr 18 a [(0, va0)] := hf
  refine c_start fun w ρ hw => ?_
  unfold impl_isSize at hF
  refine c_seq <| c_region ?_
  refine s_ hf (r_assign hf rfl) fun a hf => ?_
  refine c_nt <| c_seq <| c_seq <| c_region ?_
  refine s_ hf (r_move hf rfl) fun a hf => ?_
  refine s_ hf (r_len Try.underlying36 (h0.now hw) hf rfl) fun a hf => ?_
  refine s_ hf (r_move hf rfl) fun a hf => ?_
  refine c_nt ?_
  obtain ⟨ol1, ho1, hG1⟩ := of_bind hF
  clear hF
  refine c_block (c_loop (id := 0) (fun s => impl_isSize_l1 a0 s) (fun (s2 : Int) a w => ∃ ρ, Wd w0 ρ w ∧ Fr 18 a [(5, va0), (6, vI (a0.length : Int)), (7, vI s2)]) (fun (s2 : Int) a w => ∃ ρ, Wd w0 ρ w ∧ Fr 18 a []) ho1 ⟨_, hw, hf.sub ⟨rfl, rfl, rfl, trivial⟩⟩ ?_ ?_)
  · rintro s2 lr a w ⟨ρ, hw, hf⟩ hF
    replace hF : impl_isSize_l1 a0 s2 = some lr := hF
    unfold impl_isSize_l1 at hF
    refine c_seq <| c_region ?_
    refine s_ hf (r_lss hf rfl rfl) fun a hf => ?_
    refine c_nt <| c_seq ?_
    rcases of_ite hF with ⟨hb3, hF⟩ | ⟨hb3, hF⟩
    rotate_left
    · refine c_iff hf rfl hb3 <| c_exit <| x_then ?_
      obtain rfl := Option.some.inj hF
      exact Rnd.stops ⟨_, hw, hf.sub trivial⟩
    refine c_ift hf rfl hb3 <| c_skip <| n_then <| c_seq <| c_block <| c_seq <| c_region ?_
    obtain ⟨hc4, hF⟩ := of_guard hF
    obtain ⟨ad5, c5, he5, hl5⟩ := Ro.el fI64 h0 0 hc4.1 hc4.2
    refine s_ hf (r_idx Try.underlying36 sz2 hf rfl ⟨_, he5⟩ rfl hc4.1 hc4.2) fun a hf => ?_
    refine s_ hf (r_load_cell ty2 hf rfl (hl5.below hw.below)) fun a hf => ?_
    refine s_ hf (r_assign hf rfl) fun a hf => ?_
    refine c_nt <| c_seq ?_
    obtain ⟨s7, hT6, hG6⟩ := of_bind hF
    clear hF
    refine c_meet (fun (s7 : Bool) a w => ∃ ρ, Wd w0 ρ w ∧ Fr 18 a [(5, va0), (6, vI (a0.length : Int)), (7, vI s2), (16, .bool s7)]) s7 ?_ ?_
    · have hF := hT6
      refine c_region ?_
      refine s_ hf (r_move hf rfl) fun a hf => ?_
      refine s_ hf (r_lss hf rfl rfl) fun a hf => ?_
      refine s_ hf (r_move hf rfl) fun a hf => ?_
      rcases of_ite hF with ⟨hb8, hF⟩ | ⟨hb8, hF⟩
      · refine st_no (b := true) hf rfl rfl rfl hb8 rfl (by decide) fun a hf => ?_
        refine st_no (b := true) hf rfl rfl rfl hb8 rfl (by decide) fun a hf => ?_
        refine s_ hf (r_pick (b := true) hf rfl hb8 rfl) fun a hf => ?_
        refine c_nil ⟨rfl, ?_⟩
        obtain rfl := Option.some.inj hF
        exact ⟨_, hw, hf.sub ⟨rfl, rfl, rfl, rfl, trivial⟩⟩
      refine st_g (b := false) hf rfl rfl rfl hb8 rfl (by decide) (r_move hf rfl) fun a hf => ?_
      refine st_g (b := false) hf rfl rfl rfl hb8 rfl (by decide) (r_gtr hf rfl rfl) fun a hf => ?_
      refine s_ hf (r_pick (b := false) hf rfl hb8 rfl) fun a hf => ?_
      refine c_nil ⟨rfl, ?_⟩
      obtain rfl := Option.some.inj hF
      exact ⟨_, hw, hf.sub ⟨rfl, rfl, rfl, rfl, trivial⟩⟩
    rintro a w ⟨ρ, hw, hf⟩
    have hF := hG6
    refine n_then ?_
    rcases of_ite hF with ⟨hb9, hF⟩ | ⟨hb9, hF⟩
    rotate_left
    · refine c_iff hf rfl hb9 <| c_skip <| n_block <| n_then <| c_region ?_
      refine s_ hf (r_add hf rfl rfl) fun a hf => ?_
      refine s_ hf (r_move hf rfl) fun a hf => ?_
      refine c_nil ?_
      obtain rfl := Option.some.inj hF
      exact Rnd.goes ⟨_, hw, hf.sub ⟨rfl, rfl, rfl, trivial⟩⟩
    refine c_ift hf rfl hb9 <| c_seq <| c_region ?_
    refine s_ hf (r_assign hf rfl) fun a hf => ?_
    refine c_nt <| c_retc ?_
    obtain rfl := Option.some.inj hF
    refine r_block <| r_then ?_
    refine Rnd.rets fun ho => ?_
    subst ho
    have hF := hG1
    dsimp only at hF
    obtain rfl := Option.some.inj hF
    refine r_block <| r_then <| c_ret hf (res_tmp Try.results63 hf rfl) ?_
    exact ⟨_, rfl, hw.below, rfl⟩
  rintro s2 a w hs ⟨ρ, hw, hf⟩
  subst hs
  have hF := hG1
  dsimp only at hF
  refine x_block <| n_then <| c_seq <| c_region ?_
  refine s_ hf (r_assign hf rfl) fun a hf => ?_
  refine c_nt <| c_retc ?_
  obtain rfl := Option.some.inj hF
  refine c_ret hf (res_tmp Try.results63 hf rfl) ?_
  exact ⟨_, rfl, hw.below, rfl⟩
/-! f65 -/
noncomputable def spec_l01Prime (a0 : Int) : Option Bool :=
  (if (decide (a0 = 2)) = true then (some true) else (if (decide (a0 = 3)) = true then (some true) else (some (decide (a0 = 5))))).bind fun (s2 : Bool) => some (s2)
theorem spec_l01Prime_ok {w0 : World} {a0 : Int}   {r : Bool} (hF : spec_l01Prime a0 = some r) :
    Calls Try.prog 65 [vI a0].toArray w0 fun e w => ∃ v, e = .returned v ∧ Below w0.heap.size w0 w ∧ .bool r = v := by
  refine calls_of (k := 13) Try.func65 rfl rfl (Nat.le_of_ble_eq_true rfl) fun a hf => ?_
  replace hf : Fr 13 a [(0, vI a0)] := hf
  refine c_start fun w ρ hw => ?_
  unfold spec_l01Prime at hF
  refine c_seq <| c_region ?_
  refine s_ hf (r_assign hf rfl) fun a hf => ?_
  refine c_nt <| c_seq ?_
  obtain ⟨s2, hT1, hG1⟩ := of_bind hF
  clear hF
  refine c_meet (fun (s2 : Bool) a w => ∃ ρ, Wd w0 ρ w ∧ Fr 13 a [(2, .bool s2)]) s2 ?_ ?_
  · have hF := hT1
    refine c_region ?_
    refine s_ hf (r_move hf rfl) fun a hf => ?_
    refine s_ hf (r_eql hf rfl rfl) fun a hf => ?_
    refine s_ hf (r_move hf rfl) fun a hf => ?_
    rcases of_ite hF with ⟨hb3, hF⟩ | ⟨hb3, hF⟩
    · refine st_no (b := true) hf rfl rfl rfl hb3 rfl (by decide) fun a hf => ?_
      refine st_no (b := true) hf rfl rfl rfl hb3 rfl (by decide) fun a hf => ?_
      refine s_ hf (r_pick (b := true) hf rfl hb3 rfl) fun a hf => ?_
      refine s_ hf (r_move hf rfl) fun a hf => ?_
      refine st_no (b := true) hf rfl rfl rfl rfl rfl (by decide) fun a hf => ?_
      refine st_no (b := true) hf rfl rfl rfl rfl rfl (by decide) fun a hf => ?_
      refine s_ hf (r_pick (b := true) hf rfl rfl rfl) fun a hf => ?_
      refine s_ hf (r_assign hf rfl) fun a hf => ?_
      refine c_nil ⟨rfl, ?_⟩
      obtain rfl := Option.some.inj hF
      exact ⟨_, hw, hf.sub ⟨rfl, trivial⟩⟩
    refine st_g (b := false) hf rfl rfl rfl hb3 rfl (by decide) (r_move hf rfl) fun a hf => ?_
    refine st_g (b := false) hf rfl rfl rfl hb3 rfl (by decide) (r_eql hf rfl rfl) fun a hf => ?_
    refine s_ hf (r_pick (b := false) hf rfl hb3 rfl) fun a hf => ?_
    refine s_ hf (r_move hf rfl) fun a hf => ?_
    rcases of_ite hF with ⟨hb4, hF⟩ | ⟨hb4, hF⟩
    · refine st_no (b := true) hf rfl rfl rfl hb4 rfl (by decide) fun a hf => ?_
      refine st_no (b := true) hf rfl rfl rfl hb4 rfl (by decide) fun a hf => ?_
      refine s_ hf (r_pick (b := true) hf rfl hb4 rfl) fun a hf => ?_
      refine s_ hf (r_assign hf rfl) fun a hf => ?_
      refine c_nil ⟨rfl, ?_⟩
      obtain rfl := Option.some.inj hF
      exact ⟨_, hw, hf.sub ⟨rfl, trivial⟩⟩
    refine st_g (b := false) hf rfl rfl rfl hb4 rfl (by decide) (r_move hf rfl) fun a hf => ?_
    refine st_g (b := false) hf rfl rfl rfl hb4 rfl (by decide) (r_eql hf rfl rfl) fun a hf => ?_
    refine s_ hf (r_pick (b := false) hf rfl hb4 rfl) fun a hf => ?_
    refine s_ hf (r_assign hf rfl) fun a hf => ?_
    refine c_nil ⟨rfl, ?_⟩
    obtain rfl := Option.some.inj hF
    exact ⟨_, hw, hf.sub ⟨rfl, trivial⟩⟩
  rintro a w ⟨ρ, hw, hf⟩
  have hF := hG1
  refine n_then <| c_retc ?_
  obtain rfl := Option.some.inj hF
  refine c_ret hf (res_tmp Try.results65 hf rfl) ?_
  exact ⟨_, rfl, hw.below, rfl⟩
/-! f66 -/
noncomputable def spec_l01In (a0 : Int) (a1 : Int) (a2 : Int) : Option Bool :=
  (if (decide (a1 ≤ a0)) = true then (some (decide (a0 ≤ a2))) else (some false)).bind fun (s2 : Bool) => some (s2)
theorem spec_l01In_ok {w0 : World} {a0 : Int} {a1 : Int} {a2 : Int}   {r : Bool} (hF : spec_l01In a0 a1 a2 = some r) :
    Calls Try.prog 66 [vI a0, vI a1, vI a2].toArray w0 fun e w => ∃ v, e = .returned v ∧ Below w0.heap.size w0 w ∧ .bool r = v := by
  refine calls_of (k := 15) Try.func66 rfl rfl (Nat.le_of_ble_eq_true rfl) fun a hf => ?_
  replace hf : Fr 15 a [(0, vI a0), (1, vI a1), (2, vI a2)] := hf
  refine c_start fun w ρ hw => ?_
  unfold spec_l01In at hF
  refine c_seq <| c_region ?_
  refine s_ hf (r_assign hf rfl) fun a hf => ?_
  refine c_nt <| c_seq ?_
  obtain ⟨s2, hT1, hG1⟩ := of_bind hF
  clear hF
  refine c_meet (fun (s2 : Bool) a w => ∃ ρ, Wd w0 ρ w ∧ Fr 15 a [(6, .bool s2)]) s2 ?_ ?_
  · have hF := hT1
    refine c_region ?_
    refine s_ hf (r_move hf rfl) fun a hf => ?_
    refine s_ hf (r_move hf rfl) fun a hf => ?_
    refine s_ hf (r_geq hf rfl rfl) fun a hf => ?_
    refine s_ hf (r_move hf rfl) fun a hf => ?_
    rcases of_ite hF with ⟨hb3, hF⟩ | ⟨hb3, hF⟩
    rotate_left
    · refine st_no (b := false) hf rfl rfl rfl hb3 rfl (by decide) fun a hf => ?_
      refine st_no (b := false) hf rfl rfl rfl hb3 rfl (by decide) fun a hf => ?_
      refine st_no (b := false) hf rfl rfl rfl hb3 rfl (by decide) fun a hf => ?_
      refine s_ hf (r_pick (b := false) hf rfl hb3 rfl) fun a hf => ?_
      refine s_ hf (r_assign hf rfl) fun a hf => ?_
      refine c_nil ⟨rfl, ?_⟩
      obtain rfl := Option.some.inj hF
      exact ⟨_, hw, hf.sub ⟨rfl, trivial⟩⟩
    refine st_g (b := true) hf rfl rfl rfl hb3 rfl (by decide) (r_move hf rfl) fun a hf => ?_
    refine st_g (b := true) hf rfl rfl rfl hb3 rfl (by decide) (r_move hf rfl) fun a hf => ?_
    refine st_g (b := true) hf rfl rfl rfl hb3 rfl (by decide) (r_leq hf rfl rfl) fun a hf => ?_
    refine s_ hf (r_pick (b := true) hf rfl hb3 rfl) fun a hf => ?_
    refine s_ hf (r_assign hf rfl) fun a hf => ?_
    refine c_nil ⟨rfl, ?_⟩
    obtain rfl := Option.some.inj hF
    exact ⟨_, hw, hf.sub ⟨rfl, trivial⟩⟩
  rintro a w ⟨ρ, hw, hf⟩
  have hF := hG1
  refine n_then <| c_retc ?_
  obtain rfl := Option.some.inj hF
  refine c_ret hf (res_tmp Try.results66 hf rfl) ?_
  exact ⟨_, rfl, hw.below, rfl⟩
/-! f124 -/
noncomputable def spec_l01Sizes (a0 : Int) (a1 : Int) (a2 : Int) (a3 : Int) : Option Bool :=
  ((spec_l01Prime a0).bind fun x3 => if x3 = true then ((spec_l01In a1 1 3).bind fun x6 => if x6 = true then ((spec_l01In a2 1 3).bind fun x9 => if x9 = true then ((spec_l01In a3 1 3).bind fun x12 => some x12) else (some false)) else (some false)) else (some false)).bind fun (s2 : Bool) => some (s2)
theorem spec_l01Sizes_ok {w0 : World} {a0 : Int} {a1 : Int} {a2 : Int} {a3 : Int}   {r : Bool} (hF : spec_l01Sizes a0 a1 a2 a3 = some r) :
    Calls Try.prog 124 [vI a0, vI a1, vI a2, vI a3].toArray w0 fun e w => ∃ v, e = .returned v ∧ Below w0.heap.size w0 w ∧ .bool r = v := by
  refine calls_of (k := 23) Try.func124 rfl rfl (Nat.le_of_ble_eq_true rfl) fun a hf => ?_
  replace hf : Fr 23 a [(0, vI a0), (1, vI a1), (2, vI a2), (3, vI a3)] := hf
  refine c_start fun w ρ hw => ?_
  unfold spec_l01Sizes at hF
  refine c_seq <| c_region ?_
  refine s_ hf (r_assign hf rfl) fun a hf => ?_
  refine c_nt <| c_seq ?_
  obtain ⟨s2, hT1, hG1⟩ := of_bind hF
  clear hF
  refine c_meet (fun (s2 : Bool) a w => ∃ ρ, Wd w0 ρ w ∧ Fr 23 a [(8, .bool s2)]) s2 ?_ ?_
  · have hF := hT1
    refine c_region ?_
    refine s_ hf (r_move hf rfl) fun a hf => ?_
    obtain ⟨x3, hx4, hF⟩ := of_bind hF
    refine st_fn 1 hw hf rfl rfl (by decide) (r_fn en65 hf rfl) (spec_l01Prime_ok  hx4) fun a v w ρ hf hw hE hN hΦ => ?_
    obtain rfl := hΦ
    refine s_ hf (r_move hf rfl) fun a hf => ?_
    rcases of_ite hF with ⟨hb5, hF⟩ | ⟨hb5, hF⟩
    rotate_left
    · refine st_no (b := false) hf rfl rfl rfl hb5 rfl (by decide) fun a hf => ?_
      refine st_no (b := false) hf rfl rfl rfl hb5 rfl (by decide) fun a hf => ?_
      refine s_ hf (r_pick (b := false) hf rfl hb5 rfl) fun a hf => ?_
      refine s_ hf (r_move hf rfl) fun a hf => ?_
      refine st_no (b := false) hf rfl rfl rfl rfl rfl (by decide) fun a hf => ?_
      refine st_no (b := false) hf rfl rfl rfl rfl rfl (by decide) fun a hf => ?_
      refine s_ hf (r_pick (b := false) hf rfl rfl rfl) fun a hf => ?_
      refine s_ hf (r_move hf rfl) fun a hf => ?_
      refine st_no (b := false) hf rfl rfl rfl rfl rfl (by decide) fun a hf => ?_
      refine st_no (b := false) hf rfl rfl rfl rfl rfl (by decide) fun a hf => ?_
      refine s_ hf (r_pick (b := false) hf rfl rfl rfl) fun a hf => ?_
      refine s_ hf (r_assign hf rfl) fun a hf => ?_
      refine c_nil ⟨rfl, ?_⟩
      obtain rfl := Option.some.inj hF
      exact ⟨_, hw, hf.sub ⟨rfl, trivial⟩⟩
    refine st_g (b := true) hf rfl rfl rfl hb5 rfl (by decide) (r_move hf rfl) fun a hf => ?_
    obtain ⟨x6, hx7, hF⟩ := of_bind hF
    refine st_gfn (b := true) 2 hw hf rfl rfl rfl hb5 rfl (by decide) (r_fn en66 hf rfl) (spec_l01In_ok  hx7) fun a v w ρ hf hw hE hN hΦ => ?_
    obtain rfl := hΦ
    refine s_ hf (r_pick (b := true) hf rfl hb5 rfl) fun a hf => ?_
    refine s_ hf (r_move hf rfl) fun a hf => ?_
    rcases of_ite hF with ⟨hb8, hF⟩ | ⟨hb8, hF⟩
    rotate_left
    · refine st_no (b := false) hf rfl rfl rfl hb8 rfl (by decide) fun a hf => ?_
      refine st_no (b := false) hf rfl rfl rfl hb8 rfl (by decide) fun a hf => ?_
      refine s_ hf (r_pick (b := false) hf rfl hb8 rfl) fun a hf => ?_
      refine s_ hf (r_move hf rfl) fun a hf => ?_
      refine st_no (b := false) hf rfl rfl rfl rfl rfl (by decide) fun a hf => ?_
      refine st_no (b := false) hf rfl rfl rfl rfl rfl (by decide) fun a hf => ?_
      refine s_ hf (r_pick (b := false) hf rfl rfl rfl) fun a hf => ?_
      refine s_ hf (r_assign hf rfl) fun a hf => ?_
      refine c_nil ⟨rfl, ?_⟩
      obtain rfl := Option.some.inj hF
      exact ⟨_, hw, hf.sub ⟨rfl, trivial⟩⟩
    refine st_g (b := true) hf rfl rfl rfl hb8 rfl (by decide) (r_move hf rfl) fun a hf => ?_
    obtain ⟨x9, hx10, hF⟩ := of_bind hF
    refine st_gfn (b := true) 3 hw hf rfl rfl rfl hb8 rfl (by decide) (r_fn en66 hf rfl) (spec_l01In_ok  hx10) fun a v w ρ hf hw hE hN hΦ => ?_
    obtain rfl := hΦ
    refine s_ hf (r_pick (b := true) hf rfl hb8 rfl) fun a hf => ?_
    refine s_ hf (r_move hf rfl) fun a hf => ?_
    rcases of_ite hF with ⟨hb11, hF⟩ | ⟨hb11, hF⟩
    rotate_left
    · refine st_no (b := false) hf rfl rfl rfl hb11 rfl (by decide) fun a hf => ?_
      refine st_no (b := false) hf rfl rfl rfl hb11 rfl (by decide) fun a hf => ?_
      refine s_ hf (r_pick (b := false) hf rfl hb11 rfl) fun a hf => ?_
      refine s_ hf (r_assign hf rfl) fun a hf => ?_
      refine c_nil ⟨rfl, ?_⟩
      obtain rfl := Option.some.inj hF
      exact ⟨_, hw, hf.sub ⟨rfl, trivial⟩⟩
    refine st_g (b := true) hf rfl rfl rfl hb11 rfl (by decide) (r_move hf rfl) fun a hf => ?_
    obtain ⟨x12, hx13, hF⟩ := of_bind hF
    refine st_gfn (b := true) 4 hw hf rfl rfl rfl hb11 rfl (by decide) (r_fn en66 hf rfl) (spec_l01In_ok  hx13) fun a v w ρ hf hw hE hN hΦ => ?_
    obtain rfl := hΦ
    refine s_ hf (r_pick (b := true) hf rfl hb11 rfl) fun a hf => ?_
    refine s_ hf (r_assign hf rfl) fun a hf => ?_
    refine c_nil ⟨rfl, ?_⟩
    obtain rfl := Option.some.inj hF
    exact ⟨_, hw, hf.sub ⟨rfl, trivial⟩⟩
  rintro a w ⟨ρ, hw, hf⟩
  have hF := hG1
  refine n_then <| c_retc ?_
  obtain rfl := Option.some.inj hF
  refine c_ret hf (res_tmp Try.results124 hf rfl) ?_
  exact ⟨_, rfl, hw.below, rfl⟩
/-! f155 -/
noncomputable def spec_l01Lengths (a0 : Sch) : Option (Int × Int × Int) :=
  some ((w64 (a0.n * a0.m), w64 (a0.m * a0.k), w64 (a0.n * a0.k)))
theorem spec_l01Lengths_ok {w0 : World} {a0 : Sch} {va0 : Value} (h0 : Ro (kf cProd) w0 va0 a0.ps) {r : Int × Int × Int} (hF : spec_l01Lengths a0 = some r) :
    Calls Try.prog 155 [.agg ([vI a0.p, vI a0.n, vI a0.m, vI a0.k, va0]).toArray].toArray w0 fun e w => ∃ v, e = .returned v ∧ Below w0.heap.size w0 w ∧ .tuple #[.int .i64 r.1, .int .i64 r.2.1, .int .i64 r.2.2] = v := by
  refine calls_of (k := 20) Try.func155 rfl rfl (Nat.le_of_ble_eq_true rfl) fun a hf => ?_
  replace hf : Fr 20 a [(0, .agg ([vI a0.p, vI a0.n, vI a0.m, vI a0.k, va0]).toArray)] := hf
  refine c_start fun w ρ hw => ?_
  unfold spec_l01Lengths at hF
  refine c_seq <| c_region ?_
  refine sx_ hf (r_box (cs := [vI a0.p, vI a0.n, vI a0.m, vI a0.k, va0]) 1 hw hf rfl rfl) fun a v w hf hΦ => ?_
  obtain ⟨g1, ρ, rfl, hw, hE, o1⟩ := hΦ
  refine s_ hf (r_assign hf rfl) fun a hf => ?_
  refine s_ hf (r_assign hf rfl) fun a hf => ?_
  refine s_ hf (r_assign hf rfl) fun a hf => ?_
  refine c_nt <| c_seq ?_
  replace hf : Fr 20 a [(1, .pointer (some ((⟨g1, 0, none⟩ : Addr).add 0)))] := hf.sub ⟨rfl, trivial⟩
  refine c_drawL (h := 17) mixed (by kernel_rfl) (by kernel_rfl) (fun ρ w => Va ρ w 1 g1 39 ([vI a0.p, vI a0.n, vI a0.m, vI a0.k, va0])) ?_ [fun ρ w v => .pointer (some ((⟨g1, 0, none⟩ : Addr).add (0 + 1))) = v, fun ρ w v => vI a0.n = v, fun ρ w v => .pointer (some ((⟨g1, 0, none⟩ : Addr).add (0 + 2))) = v, fun ρ w v => vI a0.m = v, fun ρ w v => vI (w64 (a0.n * a0.m)) = v, fun ρ w v => .pointer (some ((⟨g1, 0, none⟩ : Addr).add (0 + 2))) = v, fun ρ w v => vI a0.m = v, fun ρ w v => .pointer (some ((⟨g1, 0, none⟩ : Addr).add (0 + 3))) = v, fun ρ w v => vI a0.k = v, fun ρ w v => vI (w64 (a0.m * a0.k)) = v, fun ρ w v => .pointer (some ((⟨g1, 0, none⟩ : Addr).add (0 + 1))) = v, fun ρ w v => vI a0.n = v, fun ρ w v => .pointer (some ((⟨g1, 0, none⟩ : Addr).add (0 + 3))) = v, fun ρ w v => vI a0.k = v, fun ρ w v => vI (w64 (a0.n * a0.k)) = v, fun ρ w v => vI (w64 (a0.n * a0.m)) = v, fun ρ w v => vI (w64 (a0.m * a0.k)) = v] ?_ hw o1 hf ?_ ?_
  · intro ρ w ρ' w' hE hG
    have o1 : Va ρ w 1 g1 39 ([vI a0.p, vI a0.n, vI a0.m, vI a0.k, va0]) := hG
    exact o1.ext hE
  · exact LastsL.cons (fun _ _ _ _ _ _ h => h) <| LastsL.cons (fun _ _ _ _ _ _ h => h) <| LastsL.cons (fun _ _ _ _ _ _ h => h) <| LastsL.cons (fun _ _ _ _ _ _ h => h) <| LastsL.cons (fun _ _ _ _ _ _ h => h) <| LastsL.cons (fun _ _ _ _ _ _ h => h) <| LastsL.cons (fun _ _ _ _ _ _ h => h) <| LastsL.cons (fun _ _ _ _ _ _ h => h) <| LastsL.cons (fun _ _ _ _ _ _ h => h) <| LastsL.cons (fun _ _ _ _ _ _ h => h) <| LastsL.cons (fun _ _ _ _ _ _ h => h) <| LastsL.cons (fun _ _ _ _ _ _ h => h) <| LastsL.cons (fun _ _ _ _ _ _ h => h) <| LastsL.cons (fun _ _ _ _ _ _ h => h) <| LastsL.cons (fun _ _ _ _ _ _ h => h) <| LastsL.cons (fun _ _ _ _ _ _ h => h) <| LastsL.cons (fun _ _ _ _ _ _ h => h) <| LastsL.nil
  · refine StepsB.cons ?_ <| StepsB.cons ?_ <| StepsB.cons ?_ <| StepsB.cons ?_ <| StepsB.cons ?_ <| StepsB.cons ?_ <| StepsB.cons ?_ <| StepsB.cons ?_ <| StepsB.cons ?_ <| StepsB.cons ?_ <| StepsB.cons ?_ <| StepsB.cons ?_ <| StepsB.cons ?_ <| StepsB.cons ?_ <| StepsB.cons ?_ <| StepsB.cons ?_ <| StepsB.cons ?_ <| StepsB.nil
    · intro ρ w a hw hG hf hd K hK
      have o1 : Va ρ w 1 g1 39 ([vI a0.p, vI a0.n, vI a0.m, vI a0.k, va0]) := hG
      exact dv_ hK hw (wn rfl) (r_fa fa39_1 hf rfl) rfl
    · intro ρ w a hw hG hf hd K hK
      have o1 : Va ρ w 1 g1 39 ([vI a0.p, vI a0.n, vI a0.m, vI a0.k, va0]) := hG
      obtain ⟨_, hf, rfl⟩ := got (hd 0 (by kernel_rfl)) hf
      exact dv_ hK hw (wn rfl) (r_load_cell ty2 hf rfl (o1.cl.at_ 1 _ rfl)) rfl
    · intro ρ w a hw hG hf hd K hK
      have o1 : Va ρ w 1 g1 39 ([vI a0.p, vI a0.n, vI a0.m, vI a0.k, va0]) := hG
      exact dv_ hK hw (wn rfl) (r_fa fa39_2 hf rfl) rfl
    · intro ρ w a hw hG hf hd K hK
      have o1 : Va ρ w 1 g1 39 ([vI a0.p, vI a0.n, vI a0.m, vI a0.k, va0]) := hG
      obtain ⟨_, hf, rfl⟩ := got (hd 2 (by kernel_rfl)) hf
      exact dv_ hK hw (wn rfl) (r_load_cell ty2 hf rfl (o1.cl.at_ 2 _ rfl)) rfl
    · intro ρ w a hw hG hf hd K hK
      have o1 : Va ρ w 1 g1 39 ([vI a0.p, vI a0.n, vI a0.m, vI a0.k, va0]) := hG
      obtain ⟨_, hf, rfl⟩ := got (hd 1 (by kernel_rfl)) hf
      obtain ⟨_, hf, rfl⟩ := got (hd 3 (by kernel_rfl)) hf
      exact dv_ hK hw (wn rfl) (r_mul hf rfl rfl) rfl
    · intro ρ w a hw hG hf hd K hK
      have o1 : Va ρ w 1 g1 39 ([vI a0.p, vI a0.n, vI a0.m, vI a0.k, va0]) := hG
      exact dv_ hK hw (wn rfl) (r_fa fa39_2 hf rfl) rfl
    · intro ρ w a hw hG hf hd K hK
      have o1 : Va ρ w 1 g1 39 ([vI a0.p, vI a0.n, vI a0.m, vI a0.k, va0]) := hG
      obtain ⟨_, hf, rfl⟩ := got (hd 5 (by kernel_rfl)) hf
      exact dv_ hK hw (wn rfl) (r_load_cell ty2 hf rfl (o1.cl.at_ 2 _ rfl)) rfl
    · intro ρ w a hw hG hf hd K hK
      have o1 : Va ρ w 1 g1 39 ([vI a0.p, vI a0.n, vI a0.m, vI a0.k, va0]) := hG
      exact dv_ hK hw (wn rfl) (r_fa fa39_3 hf rfl) rfl
    · intro ρ w a hw hG hf hd K hK
      have o1 : Va ρ w 1 g1 39 ([vI a0.p, vI a0.n, vI a0.m, vI a0.k, va0]) := hG
      obtain ⟨_, hf, rfl⟩ := got (hd 7 (by kernel_rfl)) hf
      exact dv_ hK hw (wn rfl) (r_load_cell ty2 hf rfl (o1.cl.at_ 3 _ rfl)) rfl
    · intro ρ w a hw hG hf hd K hK
      have o1 : Va ρ w 1 g1 39 ([vI a0.p, vI a0.n, vI a0.m, vI a0.k, va0]) := hG
      obtain ⟨_, hf, rfl⟩ := got (hd 6 (by kernel_rfl)) hf
      obtain ⟨_, hf, rfl⟩ := got (hd 8 (by kernel_rfl)) hf
      exact dv_ hK hw (wn rfl) (r_mul hf rfl rfl) rfl
    · intro ρ w a hw hG hf hd K hK
      have o1 : Va ρ w 1 g1 39 ([vI a0.p, vI a0.n, vI a0.m, vI a0.k, va0]) := hG
      exact dv_ hK hw (wn rfl) (r_fa fa39_1 hf rfl) rfl
    · intro ρ w a hw hG hf hd K hK
      have o1 : Va ρ w 1 g1 39 ([vI a0.p, vI a0.n, vI a0.m, vI a0.k, va0]) := hG
      obtain ⟨_, hf, rfl⟩ := got (hd 10 (by kernel_rfl)) hf
      exact dv_ hK hw (wn rfl) (r_load_cell ty2 hf rfl (o1.cl.at_ 1 _ rfl)) rfl
    · intro ρ w a hw hG hf hd K hK
      have o1 : Va ρ w 1 g1 39 ([vI a0.p, vI a0.n, vI a0.m, vI a0.k, va0]) := hG
      exact dv_ hK hw (wn rfl) (r_fa fa39_3 hf rfl) rfl
    · intro ρ w a hw hG hf hd K hK
      have o1 : Va ρ w 1 g1 39 ([vI a0.p, vI a0.n, vI a0.m, vI a0.k, va0]) := hG
      obtain ⟨_, hf, rfl⟩ := got (hd 12 (by kernel_rfl)) hf
      exact dv_ hK hw (wn rfl) (r_load_cell ty2 hf rfl (o1.cl.at_ 3 _ rfl)) rfl
    · intro ρ w a hw hG hf hd K hK
      have o1 : Va ρ w 1 g1 39 ([vI a0.p, vI a0.n, vI a0.m, vI a0.k, va0]) := hG
      obtain ⟨_, hf, rfl⟩ := got (hd 11 (by kernel_rfl)) hf
      obtain ⟨_, hf, rfl⟩ := got (hd 13 (by kernel_rfl)) hf
      exact dv_ hK hw (wn rfl) (r_mul hf rfl rfl) rfl
    · intro ρ w a hw hG hf hd K hK
      have o1 : Va ρ w 1 g1 39 ([vI a0.p, vI a0.n, vI a0.m, vI a0.k, va0]) := hG
      obtain ⟨_, hf, rfl⟩ := got (hd 4 (by kernel_rfl)) hf
      exact dv_ hK hw (wn rfl) (r_assign hf rfl) rfl
    · intro ρ w a hw hG hf hd K hK
      have o1 : Va ρ w 1 g1 39 ([vI a0.p, vI a0.n, vI a0.m, vI a0.k, va0]) := hG
      obtain ⟨_, hf, rfl⟩ := got (hd 9 (by kernel_rfl)) hf
      exact dv_ hK hw (wn rfl) (r_assign hf rfl) rfl
  intro ρ w a hw hG hf hd
  have o1 : Va ρ w 1 g1 39 ([vI a0.p, vI a0.n, vI a0.m, vI a0.k, va0]) := hG
  obtain ⟨_, hf, rfl⟩ := got (hd 14 (by decide)) hf
  obtain ⟨_, hf, rfl⟩ := got (hd 15 (by decide)) hf
  obtain ⟨_, hf, rfl⟩ := got (hd 16 (by decide)) hf
  refine s_ hf (r_assign hf rfl) fun a hf => ?_
  refine c_nt <| c_retc ?_
  obtain rfl := Option.some.inj hF
  refine c_ret hf (res_ttt Try.results155 hf rfl rfl rfl) ?_
  exact ⟨_, rfl, hw.below, rfl⟩
/-! f156 -/
noncomputable def spec_l01Form_l1 (a0 : Int) (a1 : Form) (a2 : Int) (s2 : Int) : Option (LR Int Bool) :=
  if (decide (s2 < 9)) = true then ((if 0 ≤ s2 ∧ s2 < 9 then (if (decide (a0 ≤ ((vg 0 a1 s2).toNat : Int))) = true then (some true) else (if (decide (a2 ≤ s2)) = true then (some (decide (((vg 0 a1 s2).toNat : Int) ≠ 0))) else (some false))) else none).bind fun (s5 : Bool) => if s5 = true then (some (.ret false)) else (some (.next (w64 (s2 + 1))))) else (some (.stop s2))
noncomputable def spec_l01Form (a0 : Int) (a1 : Form) (a2 : Int) : Option Bool :=
  (iter (fun s => spec_l01Form_l1 a0 a1 a2 s) 0).bind fun o => match o with | .stop s2 => (some (true)) | .ret r => some r | .next _ => none
theorem spec_l01Form_ok {w0 : World} {a0 : Int} {a1 : Form} {a2 : Int}   {r : Bool} (hF : spec_l01Form a0 a1 a2 = some r) :
    Calls Try.prog 156 [vI a0, .agg (cForm.enc a1).toArray, vI a2].toArray w0 fun e w => ∃ v, e = .returned v ∧ Below w0.heap.size w0 w ∧ .bool r = v := by
  refine calls_of (k := 29) Try.func156 rfl rfl (Nat.le_of_ble_eq_true rfl) fun a hf => ?_
  replace hf : Fr 29 a [(0, vI a0), (1, .agg (cForm.enc a1).toArray), (2, vI a2)] := hf
  refine c_start fun w ρ hw => ?_
  unfold spec_l01Form at hF
  refine c_seq <| c_region ?_
  refine sx_ hf (r_box (cs := cForm.enc a1) 1 hw hf rfl rfl) fun a v w hf hΦ => ?_
  obtain ⟨g1, ρ, rfl, hw, hE, o1⟩ := hΦ
  refine s_ hf (r_assign hf rfl) fun a hf => ?_
  refine c_nt <| c_seq <| c_seq <| c_region ?_
  refine s_ hf (r_assign hf rfl) fun a hf => ?_
  refine c_nt ?_
  obtain ⟨ol1, ho1, hG1⟩ := of_bind hF
  clear hF
  refine c_block (c_loop (id := 0) (fun s => spec_l01Form_l1 a0 a1 a2 s) (fun (s2 : Int) a w => ∃ ρ, Wd w0 ρ w ∧ Fr 29 a [(0, vI a0), (2, vI a2), (4, .pointer (some ((⟨g1, 0, none⟩ : Addr).add 0))), (7, vI s2)] ∧ Va ρ w 1 g1 80 (cForm.enc a1)) (fun (s2 : Int) a w => ∃ ρ, Wd w0 ρ w ∧ Fr 29 a []) ho1 ⟨_, hw, hf.sub ⟨rfl, rfl, rfl, rfl, trivial⟩, o1⟩ ?_ ?_)
  · rintro s2 lr a w ⟨ρ, hw, hf, o1⟩ hF
    replace hF : spec_l01Form_l1 a0 a1 a2 s2 = some lr := hF
    unfold spec_l01Form_l1 at hF
    refine c_seq <| c_seq <| c_region ?_
    refine s_ hf (r_move hf rfl) fun a hf => ?_
    refine s_ hf (r_lss hf rfl rfl) fun a hf => ?_
    refine c_nt ?_
    rcases of_ite hF with ⟨hb3, hF⟩ | ⟨hb3, hF⟩
    rotate_left
    · refine c_iff hf rfl hb3 <| c_exit <| x_then ?_
      obtain rfl := Option.some.inj hF
      exact Rnd.stops ⟨_, hw, hf.sub trivial⟩
    refine c_ift hf rfl hb3 <| c_skip <| n_then <| c_seq <| c_block <| c_seq ?_
    obtain ⟨s5, hT4, hG4⟩ := of_bind hF
    clear hF
    refine c_meet (fun (s5 : Bool) a w => ∃ ρ, Wd w0 ρ w ∧ Fr 29 a [(0, vI a0), (2, vI a2), (4, .pointer (some ((⟨g1, 0, none⟩ : Addr).add 0))), (7, vI s2), (28, .bool s5)] ∧ Va ρ w 1 g1 80 (cForm.enc a1)) s5 ?_ ?_
    · have hF := hT4
      refine c_region ?_
      refine s_ hf (r_move hf rfl) fun a hf => ?_
      obtain ⟨hc6, hF⟩ := of_guard hF
      refine s_ hf (r_indexAddr_arr Try.underlying80 sz5 hf rfl rfl hc6.1 hc6.2) fun a hf => ?_
      refine s_ hf (r_load_cell ty5 hf rfl (o1.cl.lens (Lens.vec 0 fU8 s2 hc6.1 hc6.2))) fun a hf => ?_
      refine s_ hf (r_conv_u8_i64 Try.underlying5 Try.underlying2 hf rfl) fun a hf => ?_
      refine s_ hf (r_move hf rfl) fun a hf => ?_
      refine s_ hf (r_geq hf rfl rfl) fun a hf => ?_
      refine s_ hf (r_move hf rfl) fun a hf => ?_
      rcases of_ite hF with ⟨hb7, hF⟩ | ⟨hb7, hF⟩
      · refine st_no (b := true) hf rfl rfl rfl hb7 rfl (by decide) fun a hf => ?_
        refine st_no (b := true) hf rfl rfl rfl hb7 rfl (by decide) fun a hf => ?_
        refine st_no (b := true) hf rfl rfl rfl hb7 rfl (by decide) fun a hf => ?_
        refine st_no (b := true) hf rfl rfl rfl hb7 rfl (by decide) fun a hf => ?_
        refine st_nu hf rfl rfl rfl rfl (by decide) fun a hf => ?_
        refine st_nu hf rfl rfl rfl rfl (by decide) fun a hf => ?_
        refine st_nu hf rfl rfl rfl rfl (by decide) fun a hf => ?_
        refine st_nu hf rfl rfl rfl rfl (by decide) fun a hf => ?_
        refine st_no (b := true) hf rfl rfl rfl hb7 rfl (by decide) fun a hf => ?_
        refine s_ hf (r_pick (b := true) hf rfl hb7 rfl) fun a hf => ?_
        refine c_nil ⟨rfl, ?_⟩
        obtain rfl := Option.some.inj hF
        exact ⟨_, hw, hf.sub ⟨rfl, rfl, rfl, rfl, rfl, trivial⟩, o1⟩
      refine st_g (b := false) hf rfl rfl rfl hb7 rfl (by decide) (r_move hf rfl) fun a hf => ?_
      refine st_g (b := false) hf rfl rfl rfl hb7 rfl (by decide) (r_move hf rfl) fun a hf => ?_
      refine st_g (b := false) hf rfl rfl rfl hb7 rfl (by decide) (r_geq hf rfl rfl) fun a hf => ?_
      refine st_g (b := false) hf rfl rfl rfl hb7 rfl (by decide) (r_move hf rfl) fun a hf => ?_
      rcases of_ite hF with ⟨hb8, hF⟩ | ⟨hb8, hF⟩
      rotate_left
      · refine st_no (b := false) hf rfl rfl rfl hb8 rfl (by decide) fun a hf => ?_
        refine st_no (b := false) hf rfl rfl rfl hb8 rfl (by decide) fun a hf => ?_
        refine st_no (b := false) hf rfl rfl rfl hb8 rfl (by decide) fun a hf => ?_
        refine st_no (b := false) hf rfl rfl rfl hb8 rfl (by decide) fun a hf => ?_
        refine st_g (b := false) hf rfl rfl rfl hb7 rfl (by decide) (r_pick (b := false) hf rfl hb8 rfl) fun a hf => ?_
        refine s_ hf (r_pick (b := false) hf rfl hb7 rfl) fun a hf => ?_
        refine c_nil ⟨rfl, ?_⟩
        obtain rfl := Option.some.inj hF
        exact ⟨_, hw, hf.sub ⟨rfl, rfl, rfl, rfl, rfl, trivial⟩, o1⟩
      refine st_g (b := true) hf rfl rfl rfl hb8 rfl (by decide) (r_move hf rfl) fun a hf => ?_
      refine st_g (b := true) hf rfl rfl rfl hb8 rfl (by decide) (r_indexAddr_arr Try.underlying80 sz5 hf rfl rfl hc6.1 hc6.2) fun a hf => ?_
      refine st_g (b := true) hf rfl rfl rfl hb8 rfl (by decide) (r_load_cell ty5 hf rfl (o1.cl.lens (Lens.vec 0 fU8 s2 hc6.1 hc6.2))) fun a hf => ?_
      refine st_g (b := true) hf rfl rfl rfl hb8 rfl (by decide) (r_neq hf rfl rfl) fun a hf => ?_
      refine st_g (b := false) hf rfl rfl rfl hb7 rfl (by decide) (r_pick (b := true) hf rfl hb8 rfl) fun a hf => ?_
      refine s_ hf (r_pick (b := false) hf rfl hb7 rfl) fun a hf => ?_
      refine c_nil ⟨rfl, ?_⟩
      obtain rfl := Option.some.inj hF
      exact ⟨_, hw, hf.sub ⟨rfl, rfl, rfl, rfl, rfl, trivial⟩, o1⟩
    rintro a w ⟨ρ, hw, hf, o1⟩
    have hF := hG4
    refine n_then ?_
    rcases of_ite hF with ⟨hb9, hF⟩ | ⟨hb9, hF⟩
    rotate_left
    · refine c_iff hf rfl hb9 <| c_skip <| n_block <| n_then <| c_region ?_
      refine s_ hf (r_move hf rfl) fun a hf => ?_
      refine s_ hf (r_add hf rfl rfl) fun a hf => ?_
      refine s_ hf (r_assign hf rfl) fun a hf => ?_
      refine c_nil ?_
      obtain rfl := Option.some.inj hF
      exact Rnd.goes ⟨_, hw, hf.sub ⟨rfl, rfl, rfl, rfl, trivial⟩, o1⟩
    refine c_ift hf rfl hb9 <| c_seq <| c_region ?_
    refine s_ hf (r_assign hf rfl) fun a hf => ?_
    refine c_nt <| c_retc ?_
    obtain rfl := Option.some.inj hF
    refine r_block <| r_then ?_
    refine Rnd.rets fun ho => ?_
    subst ho
    have hF := hG1
    dsimp only at hF
    obtain rfl := Option.some.inj hF
    refine r_block <| r_then <| c_ret hf (res_tmp Try.results156 hf rfl) ?_
    exact ⟨_, rfl, hw.below, rfl⟩
  rintro s2 a w hs ⟨ρ, hw, hf⟩
  subst hs
  have hF := hG1
  dsimp only at hF
  refine x_block <| n_then <| c_seq <| c_region ?_
  refine s_ hf (r_assign hf rfl) fun a hf => ?_
  refine c_nt <| c_retc ?_
  obtain rfl := Option.some.inj hF
  refine c_ret hf (res_tmp Try.results156 hf rfl) ?_
  exact ⟨_, rfl, hw.below, rfl⟩
/-! f157 -/
noncomputable def spec_l01Zero (a0 : Form) : Option Bool :=
  some (decide (a0 = zForm))
theorem spec_l01Zero_ok {w0 : World} {a0 : Form}   {r : Bool} (hF : spec_l01Zero a0 = some r) :
    Calls Try.prog 157 [.agg (cForm.enc a0).toArray].toArray w0 fun e w => ∃ v, e = .returned v ∧ Below w0.heap.size w0 w ∧ .bool r = v := by
  refine calls_of (k := 6) Try.func157 rfl rfl (Nat.le_of_ble_eq_true rfl) fun a hf => ?_
  replace hf : Fr 6 a [(0, .agg (cForm.enc a0).toArray)] := hf
  refine c_start fun w ρ hw => ?_
  unfold spec_l01Zero at hF
  refine c_seq <| c_region ?_
  refine sx_ hf (r_box (cs := cForm.enc a0) 1 hw hf rfl rfl) fun a v w hf hΦ => ?_
  obtain ⟨g1, ρ, rfl, hw, hE, o1⟩ := hΦ
  refine s_ hf (r_assign hf rfl) fun a hf => ?_
  refine c_nt <| c_seq <| c_region ?_
  refine s_ hf (r_load_agg ty80 hf rfl o1.cl (cForm.len _)) fun a hf => ?_
  refine s_ hf (r_build_arr (vs := []) (res := (cForm.enc zForm).toArray) Try.underlying80 sz5 ze80 hf rfl rfl rfl) fun a hf => ?_
  refine s_ hf (r_eq (d := cForm) eq80 ⟨_, rfl⟩ gt80 hf rfl rfl) fun a hf => ?_
  refine s_ hf (r_assign hf rfl) fun a hf => ?_
  refine c_nt <| c_retc ?_
  obtain rfl := Option.some.inj hF
  refine c_ret hf (res_tmp Try.results157 hf rfl) ?_
  exact ⟨_, rfl, hw.below, rfl⟩
/-! f125 -/
noncomputable def spec_l01Product (a0 : Sch) (a1 : Prod) : Option Bool :=
  (spec_l01Lengths a0).bind fun x1 => ((spec_l01Form a0.p a1.1 x1.1).bind fun x5 => if (!x5) = true then (some true) else ((spec_l01Form a0.p a1.2.1 x1.2.1).bind fun x8 => if (!x8) = true then (some true) else ((spec_l01Form a0.p a1.2.2 x1.2.2).bind fun x11 => some (!x11)))).bind fun (s4 : Bool) => if s4 = true then (some (false)) else (((spec_l01Zero a1.1).bind fun x16 => if (!x16) = true then ((spec_l01Zero a1.2.1).bind fun x19 => if (!x19) = true then ((spec_l01Zero a1.2.2).bind fun x22 => some (!x22)) else (some false)) else (some false)).bind fun (s15 : Bool) => some (s15))
theorem spec_l01Product_ok {w0 : World} {a0 : Sch} {a1 : Prod} {va0 : Value} (h0 : Ro (kf cProd) w0 va0 a0.ps) {r : Bool} (hF : spec_l01Product a0 a1 = some r) :
    Calls Try.prog 125 [.agg ([vI a0.p, vI a0.n, vI a0.m, vI a0.k, va0]).toArray, .agg (cProd.enc a1).toArray].toArray w0 fun e w => ∃ v, e = .returned v ∧ Below w0.heap.size w0 w ∧ .bool r = v := by
  refine calls_of (k := 55) Try.func125 rfl rfl (Nat.le_of_ble_eq_true rfl) fun a hf => ?_
  replace hf : Fr 55 a [(0, .agg ([vI a0.p, vI a0.n, vI a0.m, vI a0.k, va0]).toArray), (1, .agg (cProd.enc a1).toArray)] := hf
  refine c_start fun w ρ hw => ?_
  unfold spec_l01Product at hF
  refine c_seq <| c_region ?_
  refine sx_ hf (r_box (cs := [vI a0.p, vI a0.n, vI a0.m, vI a0.k, va0]) 1 hw hf rfl rfl) fun a v w hf hΦ => ?_
  obtain ⟨g1, ρ, rfl, hw, hE, o1⟩ := hΦ
  refine sx_ hf (r_box (cs := cProd.enc a1) 2 hw hf rfl rfl) fun a v w hf hΦ => ?_
  obtain ⟨g2, ρ, rfl, hw, hE, o2⟩ := hΦ
  replace o1 := o1.ext hE
  refine s_ hf (r_assign hf rfl) fun a hf => ?_
  refine c_nt <| c_seq <| c_region ?_
  refine s_ hf (r_load_agg ty39 hf rfl o1.cl rfl) fun a hf => ?_
  obtain ⟨x1, hx2, hF⟩ := of_bind hF
  refine st_fn 3 hw hf rfl rfl (by decide) (r_fn en155 hf rfl) (spec_l01Lengths_ok (a0 := a0) (h0.now hw) hx2) fun a v w ρ hf hw hE hN hΦ => ?_
  obtain rfl := hΦ
  replace o1 := o1.ext hE
  replace o2 := o2.ext hE
  refine s_ hf (r_move hf rfl) fun a hf => ?_
  refine s_ hf (r_extract hf rfl rfl) fun a hf => ?_
  refine s_ hf (r_extract hf rfl rfl) fun a hf => ?_
  refine s_ hf (r_extract hf rfl rfl) fun a hf => ?_
  refine s_ hf (r_assign hf rfl) fun a hf => ?_
  refine s_ hf (r_assign hf rfl) fun a hf => ?_
  refine s_ hf (r_assign hf rfl) fun a hf => ?_
  refine c_nt <| c_seq <| c_seq ?_
  obtain ⟨s4, hT3, hG3⟩ := of_bind hF
  clear hF
  refine c_meet (fun (s4 : Bool) a w => ∃ ρ, Wd w0 ρ w ∧ Fr 55 a [(3, .pointer (some ((⟨g2, 0, none⟩ : Addr).add 0))), (38, .bool s4)] ∧ Va ρ w 2 g2 82 (cProd.enc a1)) s4 ?_ ?_
  · have hF := hT3
    refine c_region ?_
    refine s_ hf (r_fa fa39_0 hf rfl) fun a hf => ?_
    refine s_ hf (r_load_cell ty2 hf rfl (o1.cl.at_ 0 _ rfl)) fun a hf => ?_
    refine s_ hf (r_fa fa82_0 hf rfl) fun a hf => ?_
    refine s_ hf (r_load_agg ty80 hf rfl (o2.cl.lens lProd_0) (cForm.len _)) fun a hf => ?_
    refine s_ hf (r_move hf rfl) fun a hf => ?_
    obtain ⟨x5, hx6, hF⟩ := of_bind hF
    refine st_fn 4 hw hf rfl rfl (by decide) (r_fn en156 hf rfl) (spec_l01Form_ok  hx6) fun a v w ρ hf hw hE hN hΦ => ?_
    obtain rfl := hΦ
    replace o1 := o1.ext hE
    replace o2 := o2.ext hE
    refine s_ hf (r_not hf rfl) fun a hf => ?_
    refine s_ hf (r_move hf rfl) fun a hf => ?_
    rcases of_ite hF with ⟨hb7, hF⟩ | ⟨hb7, hF⟩
    · refine st_no (b := true) hf rfl rfl rfl hb7 rfl (by decide) fun a hf => ?_
      refine st_no (b := true) hf rfl rfl rfl hb7 rfl (by decide) fun a hf => ?_
      refine st_no (b := true) hf rfl rfl rfl hb7 rfl (by decide) fun a hf => ?_
      refine st_no (b := true) hf rfl rfl rfl hb7 rfl (by decide) fun a hf => ?_
      refine st_no (b := true) hf rfl rfl rfl hb7 rfl (by decide) fun a hf => ?_
      refine st_no (b := true) hf rfl rfl rfl hb7 rfl (by decide) fun a hf => ?_
      refine st_no (b := true) hf rfl rfl rfl hb7 rfl (by decide) fun a hf => ?_
      refine s_ hf (r_pick (b := true) hf rfl hb7 rfl) fun a hf => ?_
      refine s_ hf (r_move hf rfl) fun a hf => ?_
      refine st_no (b := true) hf rfl rfl rfl rfl rfl (by decide) fun a hf => ?_
      refine st_no (b := true) hf rfl rfl rfl rfl rfl (by decide) fun a hf => ?_
      refine st_no (b := true) hf rfl rfl rfl rfl rfl (by decide) fun a hf => ?_
      refine st_no (b := true) hf rfl rfl rfl rfl rfl (by decide) fun a hf => ?_
      refine st_no (b := true) hf rfl rfl rfl rfl rfl (by decide) fun a hf => ?_
      refine st_no (b := true) hf rfl rfl rfl rfl rfl (by decide) fun a hf => ?_
      refine st_no (b := true) hf rfl rfl rfl rfl rfl (by decide) fun a hf => ?_
      refine s_ hf (r_pick (b := true) hf rfl rfl rfl) fun a hf => ?_
      refine c_nil ⟨rfl, ?_⟩
      obtain rfl := Option.some.inj hF
      exact ⟨_, hw, hf.sub ⟨rfl, rfl, trivial⟩, o2⟩
    refine st_g (b := false) hf rfl rfl rfl hb7 rfl (by decide) (r_fa fa39_0 hf rfl) fun a hf => ?_
    refine st_g (b := false) hf rfl rfl rfl hb7 rfl (by decide) (r_load_cell ty2 hf rfl (o1.cl.at_ 0 _ rfl)) fun a hf => ?_
    refine st_g (b := false) hf rfl rfl rfl hb7 rfl (by decide) (r_fa fa82_1 hf rfl) fun a hf => ?_
    refine st_g (b := false) hf rfl rfl rfl hb7 rfl (by decide) (r_load_agg ty80 hf rfl (o2.cl.lens lProd_1) (cForm.len _)) fun a hf => ?_
    refine st_g (b := false) hf rfl rfl rfl hb7 rfl (by decide) (r_move hf rfl) fun a hf => ?_
    obtain ⟨x8, hx9, hF⟩ := of_bind hF
    refine st_gfn (b := false) 5 hw hf rfl rfl rfl hb7 rfl (by decide) (r_fn en156 hf rfl) (spec_l01Form_ok  hx9) fun a v w ρ hf hw hE hN hΦ => ?_
    obtain rfl := hΦ
    replace o1 := o1.ext hE
    replace o2 := o2.ext hE
    refine st_g (b := false) hf rfl rfl rfl hb7 rfl (by decide) (r_not hf rfl) fun a hf => ?_
    refine s_ hf (r_pick (b := false) hf rfl hb7 rfl) fun a hf => ?_
    refine s_ hf (r_move hf rfl) fun a hf => ?_
    rcases of_ite hF with ⟨hb10, hF⟩ | ⟨hb10, hF⟩
    · refine st_no (b := true) hf rfl rfl rfl hb10 rfl (by decide) fun a hf => ?_
      refine st_no (b := true) hf rfl rfl rfl hb10 rfl (by decide) fun a hf => ?_
      refine st_no (b := true) hf rfl rfl rfl hb10 rfl (by decide) fun a hf => ?_
      refine st_no (b := true) hf rfl rfl rfl hb10 rfl (by decide) fun a hf => ?_
      refine st_no (b := true) hf rfl rfl rfl hb10 rfl (by decide) fun a hf => ?_
      refine st_no (b := true) hf rfl rfl rfl hb10 rfl (by decide) fun a hf => ?_
      refine st_no (b := true) hf rfl rfl rfl hb10 rfl (by decide) fun a hf => ?_
      refine s_ hf (r_pick (b := true) hf rfl hb10 rfl) fun a hf => ?_
      refine c_nil ⟨rfl, ?_⟩
      obtain rfl := Option.some.inj hF
      exact ⟨_, hw, hf.sub ⟨rfl, rfl, trivial⟩, o2⟩
    refine st_g (b := false) hf rfl rfl rfl hb10 rfl (by decide) (r_fa fa39_0 hf rfl) fun a hf => ?_
    refine st_g (b := false) hf rfl rfl rfl hb10 rfl (by decide) (r_load_cell ty2 hf rfl (o1.cl.at_ 0 _ rfl)) fun a hf => ?_
    refine st_g (b := false) hf rfl rfl rfl hb10 rfl (by decide) (r_fa fa82_2 hf rfl) fun a hf => ?_
    refine st_g (b := false) hf rfl rfl rfl hb10 rfl (by decide) (r_load_agg ty80 hf rfl (o2.cl.lens lProd_2) (cForm.len _)) fun a hf => ?_
    refine st_g (b := false) hf rfl rfl rfl hb10 rfl (by decide) (r_move hf rfl) fun a hf => ?_
    obtain ⟨x11, hx12, hF⟩ := of_bind hF
    refine st_gfn (b := false) 6 hw hf rfl rfl rfl hb10 rfl (by decide) (r_fn en156 hf rfl) (spec_l01Form_ok  hx12) fun a v w ρ hf hw hE hN hΦ => ?_
    obtain rfl := hΦ
    replace o1 := o1.ext hE
    replace o2 := o2.ext hE
    refine st_g (b := false) hf rfl rfl rfl hb10 rfl (by decide) (r_not hf rfl) fun a hf => ?_
    refine s_ hf (r_pick (b := false) hf rfl hb10 rfl) fun a hf => ?_
    refine c_nil ⟨rfl, ?_⟩
    obtain rfl := Option.some.inj hF
    exact ⟨_, hw, hf.sub ⟨rfl, rfl, trivial⟩, o2⟩
  rintro a w ⟨ρ, hw, hf, o2⟩
  have hF := hG3
  refine n_then ?_
  rcases of_ite hF with ⟨hb13, hF⟩ | ⟨hb13, hF⟩
  · refine c_ift hf rfl hb13 <| c_seq <| c_region ?_
    refine s_ hf (r_assign hf rfl) fun a hf => ?_
    refine c_nt <| c_retc ?_
    obtain rfl := Option.some.inj hF
    refine r_then <| c_ret hf (res_tmp Try.results125 hf rfl) ?_
    exact ⟨_, rfl, hw.below, rfl⟩
  refine c_iff hf rfl hb13 <| c_skip <| n_then <| c_seq ?_
  obtain ⟨s15, hT14, hG14⟩ := of_bind hF
  clear hF
  refine c_meet (fun (s15 : Bool) a w => ∃ ρ, Wd w0 ρ w ∧ Fr 55 a [(4, .bool s15)]) s15 ?_ ?_
  · have hF := hT14
    refine c_region ?_
    refine s_ hf (r_fa fa82_0 hf rfl) fun a hf => ?_
    refine s_ hf (r_load_agg ty80 hf rfl (o2.cl.lens lProd_0) (cForm.len _)) fun a hf => ?_
    obtain ⟨x16, hx17, hF⟩ := of_bind hF
    refine st_fn 7 hw hf rfl rfl (by decide) (r_fn en157 hf rfl) (spec_l01Zero_ok  hx17) fun a v w ρ hf hw hE hN hΦ => ?_
    obtain rfl := hΦ
    replace o2 := o2.ext hE
    refine s_ hf (r_not hf rfl) fun a hf => ?_
    refine s_ hf (r_move hf rfl) fun a hf => ?_
    rcases of_ite hF with ⟨hb18, hF⟩ | ⟨hb18, hF⟩
    rotate_left
    · refine st_no (b := false) hf rfl rfl rfl hb18 rfl (by decide) fun a hf => ?_
      refine st_no (b := false) hf rfl rfl rfl hb18 rfl (by decide) fun a hf => ?_
      refine st_no (b := false) hf rfl rfl rfl hb18 rfl (by decide) fun a hf => ?_
      refine st_no (b := false) hf rfl rfl rfl hb18 rfl (by decide) fun a hf => ?_
      refine s_ hf (r_pick (b := false) hf rfl hb18 rfl) fun a hf => ?_
      refine s_ hf (r_move hf rfl) fun a hf => ?_
      refine st_no (b := false) hf rfl rfl rfl rfl rfl (by decide) fun a hf => ?_
      refine st_no (b := false) hf rfl rfl rfl rfl rfl (by decide) fun a hf => ?_
      refine st_no (b := false) hf rfl rfl rfl rfl rfl (by decide) fun a hf => ?_
      refine st_no (b := false) hf rfl rfl rfl rfl rfl (by decide) fun a hf => ?_
      refine s_ hf (r_pick (b := false) hf rfl rfl rfl) fun a hf => ?_
      refine s_ hf (r_assign hf rfl) fun a hf => ?_
      refine c_nil ⟨rfl, ?_⟩
      obtain rfl := Option.some.inj hF
      exact ⟨_, hw, hf.sub ⟨rfl, trivial⟩⟩
    refine st_g (b := true) hf rfl rfl rfl hb18 rfl (by decide) (r_fa fa82_1 hf rfl) fun a hf => ?_
    refine st_g (b := true) hf rfl rfl rfl hb18 rfl (by decide) (r_load_agg ty80 hf rfl (o2.cl.lens lProd_1) (cForm.len _)) fun a hf => ?_
    obtain ⟨x19, hx20, hF⟩ := of_bind hF
    refine st_gfn (b := true) 8 hw hf rfl rfl rfl hb18 rfl (by decide) (r_fn en157 hf rfl) (spec_l01Zero_ok  hx20) fun a v w ρ hf hw hE hN hΦ => ?_
    obtain rfl := hΦ
    replace o2 := o2.ext hE
    refine st_g (b := true) hf rfl rfl rfl hb18 rfl (by decide) (r_not hf rfl) fun a hf => ?_
    refine s_ hf (r_pick (b := true) hf rfl hb18 rfl) fun a hf => ?_
    refine s_ hf (r_move hf rfl) fun a hf => ?_
    rcases of_ite hF with ⟨hb21, hF⟩ | ⟨hb21, hF⟩
    rotate_left
    · refine st_no (b := false) hf rfl rfl rfl hb21 rfl (by decide) fun a hf => ?_
      refine st_no (b := false) hf rfl rfl rfl hb21 rfl (by decide) fun a hf => ?_
      refine st_no (b := false) hf rfl rfl rfl hb21 rfl (by decide) fun a hf => ?_
      refine st_no (b := false) hf rfl rfl rfl hb21 rfl (by decide) fun a hf => ?_
      refine s_ hf (r_pick (b := false) hf rfl hb21 rfl) fun a hf => ?_
      refine s_ hf (r_assign hf rfl) fun a hf => ?_
      refine c_nil ⟨rfl, ?_⟩
      obtain rfl := Option.some.inj hF
      exact ⟨_, hw, hf.sub ⟨rfl, trivial⟩⟩
    refine st_g (b := true) hf rfl rfl rfl hb21 rfl (by decide) (r_fa fa82_2 hf rfl) fun a hf => ?_
    refine st_g (b := true) hf rfl rfl rfl hb21 rfl (by decide) (r_load_agg ty80 hf rfl (o2.cl.lens lProd_2) (cForm.len _)) fun a hf => ?_
    obtain ⟨x22, hx23, hF⟩ := of_bind hF
    refine st_gfn (b := true) 9 hw hf rfl rfl rfl hb21 rfl (by decide) (r_fn en157 hf rfl) (spec_l01Zero_ok  hx23) fun a v w ρ hf hw hE hN hΦ => ?_
    obtain rfl := hΦ
    replace o2 := o2.ext hE
    refine st_g (b := true) hf rfl rfl rfl hb21 rfl (by decide) (r_not hf rfl) fun a hf => ?_
    refine s_ hf (r_pick (b := true) hf rfl hb21 rfl) fun a hf => ?_
    refine s_ hf (r_assign hf rfl) fun a hf => ?_
    refine c_nil ⟨rfl, ?_⟩
    obtain rfl := Option.some.inj hF
    exact ⟨_, hw, hf.sub ⟨rfl, trivial⟩⟩
  rintro a w ⟨ρ, hw, hf⟩
  have hF := hG14
  refine n_then <| c_retc ?_
  obtain rfl := Option.some.inj hF
  refine c_ret hf (res_tmp Try.results125 hf rfl) ?_
  exact ⟨_, rfl, hw.below, rfl⟩
/-! f77 -/
noncomputable def spec_l01Is_l7 (a0 : Sch) (s8 : Int) : Option (LR Int Bool) :=
  if (decide (s8 < (a0.ps.length : Int))) = true then (if 0 ≤ s8 ∧ s8 < (a0.ps.length : Int) then ((spec_l01Product a0 (gl zProd a0.ps s8)).bind fun x12 => if (!x12) = true then (some (.ret false)) else (some (.next (w64 (s8 + 1))))) else none) else (some (.stop s8))
noncomputable def spec_l01Is (a0 : Sch) : Option Bool :=
  ((spec_l01Sizes a0.p a0.n a0.m a0.k).bind fun x3 => if (!x3) = true then (some true) else (some (decide (30 < (a0.ps.length : Int))))).bind fun (s2 : Bool) => if s2 = true then (some (false)) else ((iter (fun s => spec_l01Is_l7 a0 s) 0).bind fun o => match o with | .stop s8 => (some (true)) | .ret r => some r | .next _ => none)
theorem spec_l01Is_ok {w0 : World} {a0 : Sch} {va0 : Value} (h0 : Ro (kf cProd) w0 va0 a0.ps) {r : Bool} (hF : spec_l01Is a0 = some r) :
    Calls Try.prog 77 [.agg ([vI a0.p, vI a0.n, vI a0.m, vI a0.k, va0]).toArray].toArray w0 fun e w => ∃ v, e = .returned v ∧ Below w0.heap.size w0 w ∧ .bool r = v := by
  refine calls_of (k := 35) Try.func77 rfl rfl (Nat.le_of_ble_eq_true rfl) fun a hf => ?_
  replace hf : Fr 35 a [(0, .agg ([vI a0.p, vI a0.n, vI a0.m, vI a0.k, va0]).toArray)] := hf
  refine c_start fun w ρ hw => ?_
  unfold spec_l01Is at hF
  refine c_seq <| c_region ?_
  refine sx_ hf (r_box (cs := [vI a0.p, vI a0.n, vI a0.m, vI a0.k, va0]) 1 hw hf rfl rfl) fun a v w hf hΦ => ?_
  obtain ⟨g1, ρ, rfl, hw, hE, o1⟩ := hΦ
  refine s_ hf (r_assign hf rfl) fun a hf => ?_
  refine c_nt <| c_seq <| c_seq ?_
  obtain ⟨s2, hT1, hG1⟩ := of_bind hF
  clear hF
  refine c_meet (fun (s2 : Bool) a w => ∃ ρ, Wd w0 ρ w ∧ Fr 35 a [(1, .pointer (some ((⟨g1, 0, none⟩ : Addr).add 0))), (19, .bool s2)] ∧ Va ρ w 1 g1 39 ([vI a0.p, vI a0.n, vI a0.m, vI a0.k, va0])) s2 ?_ ?_
  · have hF := hT1
    refine c_region ?_
    refine s_ hf (r_fa fa39_0 hf rfl) fun a hf => ?_
    refine s_ hf (r_load_cell ty2 hf rfl (o1.cl.at_ 0 _ rfl)) fun a hf => ?_
    refine s_ hf (r_fa fa39_1 hf rfl) fun a hf => ?_
    refine s_ hf (r_load_cell ty2 hf rfl (o1.cl.at_ 1 _ rfl)) fun a hf => ?_
    refine s_ hf (r_fa fa39_2 hf rfl) fun a hf => ?_
    refine s_ hf (r_load_cell ty2 hf rfl (o1.cl.at_ 2 _ rfl)) fun a hf => ?_
    refine s_ hf (r_fa fa39_3 hf rfl) fun a hf => ?_
    refine s_ hf (r_load_cell ty2 hf rfl (o1.cl.at_ 3 _ rfl)) fun a hf => ?_
    obtain ⟨x3, hx4, hF⟩ := of_bind hF
    refine st_fn 2 hw hf rfl rfl (by decide) (r_fn en124 hf rfl) (spec_l01Sizes_ok  hx4) fun a v w ρ hf hw hE hN hΦ => ?_
    obtain rfl := hΦ
    replace o1 := o1.ext hE
    refine s_ hf (r_not hf rfl) fun a hf => ?_
    refine s_ hf (r_move hf rfl) fun a hf => ?_
    rcases of_ite hF with ⟨hb5, hF⟩ | ⟨hb5, hF⟩
    · refine st_no (b := true) hf rfl rfl rfl hb5 rfl (by decide) fun a hf => ?_
      refine st_no (b := true) hf rfl rfl rfl hb5 rfl (by decide) fun a hf => ?_
      refine st_no (b := true) hf rfl rfl rfl hb5 rfl (by decide) fun a hf => ?_
      refine st_no (b := true) hf rfl rfl rfl hb5 rfl (by decide) fun a hf => ?_
      refine s_ hf (r_pick (b := true) hf rfl hb5 rfl) fun a hf => ?_
      refine c_nil ⟨rfl, ?_⟩
      obtain rfl := Option.some.inj hF
      exact ⟨_, hw, hf.sub ⟨rfl, rfl, trivial⟩, o1⟩
    refine st_g (b := false) hf rfl rfl rfl hb5 rfl (by decide) (r_fa fa39_4 hf rfl) fun a hf => ?_
    refine st_g (b := false) hf rfl rfl rfl hb5 rfl (by decide) (r_load_cell ty37 hf rfl (o1.cl.at_ 4 _ rfl)) fun a hf => ?_
    refine st_g (b := false) hf rfl rfl rfl hb5 rfl (by decide) (r_len Try.underlying37 (h0.now hw) hf rfl) fun a hf => ?_
    refine st_g (b := false) hf rfl rfl rfl hb5 rfl (by decide) (r_gtr hf rfl rfl) fun a hf => ?_
    refine s_ hf (r_pick (b := false) hf rfl hb5 rfl) fun a hf => ?_
    refine c_nil ⟨rfl, ?_⟩
    obtain rfl := Option.some.inj hF
    exact ⟨_, hw, hf.sub ⟨rfl, rfl, trivial⟩, o1⟩
  rintro a w ⟨ρ, hw, hf, o1⟩
  have hF := hG1
  refine n_then ?_
  rcases of_ite hF with ⟨hb6, hF⟩ | ⟨hb6, hF⟩
  · refine c_ift hf rfl hb6 <| c_seq <| c_region ?_
    refine s_ hf (r_assign hf rfl) fun a hf => ?_
    refine c_nt <| c_retc ?_
    obtain rfl := Option.some.inj hF
    refine r_then <| c_ret hf (res_tmp Try.results77 hf rfl) ?_
    exact ⟨_, rfl, hw.below, rfl⟩
  refine c_iff hf rfl hb6 <| c_skip <| n_then <| c_seq <| c_seq <| c_region ?_
  refine s_ hf (r_assign hf rfl) fun a hf => ?_
  refine c_nt ?_
  obtain ⟨ol7, ho7, hG7⟩ := of_bind hF
  clear hF
  refine c_block (c_loop (id := 0) (fun s => spec_l01Is_l7 a0 s) (fun (s8 : Int) a w => ∃ ρ, Wd w0 ρ w ∧ Fr 35 a [(1, .pointer (some ((⟨g1, 0, none⟩ : Addr).add 0))), (3, vI s8)] ∧ Va ρ w 1 g1 39 ([vI a0.p, vI a0.n, vI a0.m, vI a0.k, va0])) (fun (s8 : Int) a w => ∃ ρ, Wd w0 ρ w ∧ Fr 35 a []) ho7 ⟨_, hw, hf.sub ⟨rfl, rfl, trivial⟩, o1⟩ ?_ ?_)
  · rintro s8 lr a w ⟨ρ, hw, hf, o1⟩ hF
    replace hF : spec_l01Is_l7 a0 s8 = some lr := hF
    unfold spec_l01Is_l7 at hF
    refine c_seq <| c_seq <| c_region ?_
    refine s_ hf (r_move hf rfl) fun a hf => ?_
    refine s_ hf (r_fa fa39_4 hf rfl) fun a hf => ?_
    refine s_ hf (r_load_cell ty37 hf rfl (o1.cl.at_ 4 _ rfl)) fun a hf => ?_
    refine s_ hf (r_len Try.underlying37 (h0.now hw) hf rfl) fun a hf => ?_
    refine s_ hf (r_lss hf rfl rfl) fun a hf => ?_
    refine c_nt ?_
    rcases of_ite hF with ⟨hb9, hF⟩ | ⟨hb9, hF⟩
    rotate_left
    · refine c_iff hf rfl hb9 <| c_exit <| x_then ?_
      obtain rfl := Option.some.inj hF
      exact Rnd.stops ⟨_, hw, hf.sub trivial⟩
    refine c_ift hf rfl hb9 <| c_skip <| n_then <| c_seq <| c_block <| c_seq ?_
    obtain ⟨hc10, hF⟩ := of_guard hF
    obtain ⟨ad11, c11, he11, hl11⟩ := Ro.el cProd h0 zProd hc10.1 hc10.2
    replace hf : Fr 35 a [(1, .pointer (some ((⟨g1, 0, none⟩ : Addr).add 0))), (3, vI s8)] := hf.sub ⟨rfl, rfl, trivial⟩
    refine c_drawL (h := 6) mixed (by kernel_rfl) (by kernel_rfl) (fun ρ w => Va ρ w 1 g1 39 ([vI a0.p, vI a0.n, vI a0.m, vI a0.k, va0])) ?_ [fun ρ w v => .agg ([vI a0.p, vI a0.n, vI a0.m, vI a0.k, va0]).toArray = v, fun ρ w v => .pointer (some ((⟨g1, 0, none⟩ : Addr).add (0 + 4))) = v, fun ρ w v => va0 = v, fun ρ w v => vI s8 = v, fun ρ w v => .pointer (some (ad11.add (s8.toNat * 27))) = v, fun ρ w v => .agg (cProd.enc (gl zProd a0.ps s8)).toArray = v] ?_ hw o1 hf ?_ ?_
    · intro ρ w ρ' w' hE hG
      have o1 : Va ρ w 1 g1 39 ([vI a0.p, vI a0.n, vI a0.m, vI a0.k, va0]) := hG
      exact o1.ext hE
    · exact LastsL.cons (fun _ _ _ _ _ _ h => h) <| LastsL.cons (fun _ _ _ _ _ _ h => h) <| LastsL.cons (fun _ _ _ _ _ _ h => h) <| LastsL.cons (fun _ _ _ _ _ _ h => h) <| LastsL.cons (fun _ _ _ _ _ _ h => h) <| LastsL.cons (fun _ _ _ _ _ _ h => h) <| LastsL.nil
    · refine StepsB.cons ?_ <| StepsB.cons ?_ <| StepsB.cons ?_ <| StepsB.cons ?_ <| StepsB.cons ?_ <| StepsB.cons ?_ <| StepsB.nil
      · intro ρ w a hw hG hf hd K hK
        have o1 : Va ρ w 1 g1 39 ([vI a0.p, vI a0.n, vI a0.m, vI a0.k, va0]) := hG
        exact dv_ hK hw (wn rfl) (r_load_agg ty39 hf rfl o1.cl rfl) rfl
      · intro ρ w a hw hG hf hd K hK
        have o1 : Va ρ w 1 g1 39 ([vI a0.p, vI a0.n, vI a0.m, vI a0.k, va0]) := hG
        exact dv_ hK hw (wn rfl) (r_fa fa39_4 hf rfl) rfl
      · intro ρ w a hw hG hf hd K hK
        have o1 : Va ρ w 1 g1 39 ([vI a0.p, vI a0.n, vI a0.m, vI a0.k, va0]) := hG
        obtain ⟨_, hf, rfl⟩ := got (hd 1 (by kernel_rfl)) hf
        exact dv_ hK hw (wn rfl) (r_load_cell ty37 hf rfl (o1.cl.at_ 4 _ rfl)) rfl
      · intro ρ w a hw hG hf hd K hK
        have o1 : Va ρ w 1 g1 39 ([vI a0.p, vI a0.n, vI a0.m, vI a0.k, va0]) := hG
        exact dv_ hK hw (wn rfl) (r_move hf rfl) rfl
      · intro ρ w a hw hG hf hd K hK
        have o1 : Va ρ w 1 g1 39 ([vI a0.p, vI a0.n, vI a0.m, vI a0.k, va0]) := hG
        obtain ⟨_, hf, rfl⟩ := got (hd 2 (by kernel_rfl)) hf
        obtain ⟨_, hf, rfl⟩ := got (hd 3 (by kernel_rfl)) hf
        exact dv_ hK hw (wn rfl) (r_idx Try.underlying37 sz82 hf rfl ⟨_, he11⟩ rfl hc10.1 hc10.2) rfl
      · intro ρ w a hw hG hf hd K hK
        have o1 : Va ρ w 1 g1 39 ([vI a0.p, vI a0.n, vI a0.m, vI a0.k, va0]) := hG
        obtain ⟨_, hf, rfl⟩ := got (hd 4 (by kernel_rfl)) hf
        exact dv_ hK hw (wn rfl) (r_load_agg ty82 hf rfl (hl11.below hw.below) (cProd.len _)) rfl
    intro ρ w a hw hG hf hd
    have o1 : Va ρ w 1 g1 39 ([vI a0.p, vI a0.n, vI a0.m, vI a0.k, va0]) := hG
    obtain ⟨_, hf, rfl⟩ := got (hd 0 (by decide)) hf
    obtain ⟨_, hf, rfl⟩ := got (hd 5 (by decide)) hf
    obtain ⟨x12, hx13, hF⟩ := of_bind hF
    refine st_fn 3 hw hf rfl rfl (by decide) (r_fn en125 hf rfl) (spec_l01Product_ok (a0 := a0) (h0.now hw) hx13) fun a v w ρ hf hw hE hN hΦ => ?_
    obtain rfl := hΦ
    replace o1 := o1.ext hE
    refine s_ hf (r_not hf rfl) fun a hf => ?_
    refine c_nt ?_
    rcases of_ite hF with ⟨hb14, hF⟩ | ⟨hb14, hF⟩
    rotate_left
    · refine c_iff hf rfl hb14 <| c_skip <| n_block <| n_then <| c_region ?_
      refine s_ hf (r_move hf rfl) fun a hf => ?_
      refine s_ hf (r_add hf rfl rfl) fun a hf => ?_
      refine s_ hf (r_assign hf rfl) fun a hf => ?_
      refine c_nil ?_
      obtain rfl := Option.some.inj hF
      exact Rnd.goes ⟨_, hw, hf.sub ⟨rfl, rfl, trivial⟩, o1⟩
    refine c_ift hf rfl hb14 <| c_seq <| c_region ?_
    refine s_ hf (r_assign hf rfl) fun a hf => ?_
    refine c_nt <| c_retc ?_
    obtain rfl := Option.some.inj hF
    refine r_block <| r_then ?_
    refine Rnd.rets fun ho => ?_
    subst ho
    have hF := hG7
    dsimp only at hF
    obtain rfl := Option.some.inj hF
    refine r_block <| r_then <| c_ret hf (res_tmp Try.results77 hf rfl) ?_
    exact ⟨_, rfl, hw.below, rfl⟩
  rintro s8 a w hs ⟨ρ, hw, hf⟩
  subst hs
  have hF := hG7
  dsimp only at hF
  refine x_block <| n_then <| c_seq <| c_region ?_
  refine s_ hf (r_assign hf rfl) fun a hf => ?_
  refine c_nt <| c_retc ?_
  obtain rfl := Option.some.inj hF
  refine c_ret hf (res_tmp Try.results77 hf rfl) ?_
  exact ⟨_, rfl, hw.below, rfl⟩
/-! f161 -/
noncomputable def impl_factors (a0 : Prod) : Option Forms :=
  some ((#v[a0.1, a0.2.1, a0.2.2] : Forms))
theorem impl_factors_ok {w0 : World} {a0 : Prod}   {r : Forms} (hF : impl_factors a0 = some r) :
    Calls Try.prog 161 [.agg (cProd.enc a0).toArray].toArray w0 fun e w => ∃ v, e = .returned v ∧ Below w0.heap.size w0 w ∧ .agg (cForms.enc r).toArray = v := by
  refine calls_of (k := 10) Try.func161 rfl rfl (Nat.le_of_ble_eq_true rfl) fun a hf => ?_
  replace hf : Fr 10 a [(0, .agg (cProd.enc a0).toArray)] := hf
  refine c_start fun w ρ hw => ?_
  unfold impl_factors at hF
  refine c_seq <| c_region ?_
  refine sx_ hf (r_box (cs := cProd.enc a0) 1 hw hf rfl rfl) fun a v w hf hΦ => ?_
  obtain ⟨g1, ρ, rfl, hw, hE, o1⟩ := hΦ
  refine sx_ hf (r_alloc (cs := cForms.enc zForms) 2 ze154 rfl hw) fun a v w hf hΦ => ?_
  obtain ⟨g2, ρ, rfl, hw, hE, o2⟩ := hΦ
  replace o1 := o1.ext hE
  refine c_nt <| c_seq <| c_region ?_
  refine s_ hf (r_fa fa82_0 hf rfl) fun a hf => ?_
  refine s_ hf (r_load_agg ty80 hf rfl (o1.cl.lens lProd_0) (cForm.len _)) fun a hf => ?_
  refine s_ hf (r_fa fa82_1 hf rfl) fun a hf => ?_
  refine s_ hf (r_load_agg ty80 hf rfl (o1.cl.lens lProd_1) (cForm.len _)) fun a hf => ?_
  refine s_ hf (r_fa fa82_2 hf rfl) fun a hf => ?_
  refine s_ hf (r_load_agg ty80 hf rfl (o1.cl.lens lProd_2) (cForm.len _)) fun a hf => ?_
  refine s_ hf (r_build_arr (vs := [(0, .agg (cForm.enc a0.1).toArray), (1, .agg (cForm.enc a0.2.1).toArray), (2, .agg (cForm.enc a0.2.2).toArray)]) (res := (cForms.enc (#v[a0.1, a0.2.1, a0.2.2] : Forms)).toArray) Try.underlying154 sz80 ze154 hf rfl rfl ((fill_lens (d := cForms) (z := zForms) (Lens.vec zForm cForm (0 : Int) (by decide) (by decide)) rfl rfl).trans ((fill_lens (d := cForms) (z := vs zForms 0 a0.1) (Lens.vec zForm cForm (1 : Int) (by decide) (by decide)) rfl rfl).trans ((fill_lens (d := cForms) (z := vs (vs zForms 0 a0.1) 1 a0.2.1) (Lens.vec zForm cForm (2 : Int) (by decide) (by decide)) rfl rfl).trans rfl)))) fun a hf => ?_
  refine sk_ hf (r_store_w (cs' := cForms.enc (#v[a0.1, a0.2.1, a0.2.2] : Forms)) hw o2 (by decide) ty154 (cForms.len _) (cForms.len _) (cForms.one _) hf rfl rfl rfl) fun a w hf hΦ => ?_
  obtain ⟨hw, hA, o2⟩ := hΦ
  replace o1 := o1.adv hA (by decide)
  refine c_nt <| c_retc ?_
  obtain rfl := Option.some.inj hF
  refine c_ret hf (res_cell Try.results161 ty154 hf rfl o2.cl (cForms.len _)) ?_
  exact ⟨_, rfl, hw.below, rfl⟩
/-! f162 -/
noncomputable def impl_isForm_l1 (a0 : Int) (a1 : Int) (a2 : Form) (s2 : Int) : Option (LR Int Bool) :=
  if (decide (s2 < 9)) = true then (if 0 ≤ s2 ∧ s2 < 9 then ((if (decide (a0 ≤ ((vg 0 a2 s2).toNat : Int))) = true then (some true) else (if (decide (((vg 0 a2 s2).toNat : Int) ≠ 0)) = true then (some (decide (a1 ≤ s2))) else (some false))).bind fun (s6 : Bool) => if s6 = true then (some (.ret false)) else (some (.next (w64 (s2 + 1))))) else none) else (some (.stop s2))
noncomputable def impl_isForm (a0 : Int) (a1 : Int) (a2 : Form) : Option Bool :=
  (iter (fun s => impl_isForm_l1 a0 a1 a2 s) 0).bind fun o => match o with | .stop s2 => (some (true)) | .ret r => some r | .next _ => none
theorem impl_isForm_ok {w0 : World} {a0 : Int} {a1 : Int} {a2 : Form}   {r : Bool} (hF : impl_isForm a0 a1 a2 = some r) :
    Calls Try.prog 162 [vI a0, vI a1, .agg (cForm.enc a2).toArray].toArray w0 fun e w => ∃ v, e = .returned v ∧ Below w0.heap.size w0 w ∧ .bool r = v := by
  refine calls_of (k := 28) Try.func162 rfl rfl (Nat.le_of_ble_eq_true rfl) fun a hf => ?_
  replace hf : Fr 28 a [(0, vI a0), (1, vI a1), (2, .agg (cForm.enc a2).toArray)] := hf
  refine c_start fun w ρ hw => ?_
  unfold impl_isForm at hF
  refine c_seq <| c_region ?_
  refine sx_ hf (r_box (cs := cForm.enc a2) 1 hw hf rfl rfl) fun a v w hf hΦ => ?_
  obtain ⟨g1, ρ, rfl, hw, hE, o1⟩ := hΦ
  refine s_ hf (r_assign hf rfl) fun a hf => ?_
  refine c_nt <| c_seq <| c_seq <| c_region ?_
  refine s_ hf (r_load_agg ty80 hf rfl o1.cl (cForm.len _)) fun a hf => ?_
  refine s_ hf (r_move hf rfl) fun a hf => ?_
  refine c_nt ?_
  obtain ⟨ol1, ho1, hG1⟩ := of_bind hF
  clear hF
  refine c_block (c_loop (id := 0) (fun s => impl_isForm_l1 a0 a1 a2 s) (fun (s2 : Int) a w => ∃ ρ, Wd w0 ρ w ∧ Fr 28 a [(0, vI a0), (1, vI a1), (9, .agg (cForm.enc a2).toArray), (10, vI s2)]) (fun (s2 : Int) a w => ∃ ρ, Wd w0 ρ w ∧ Fr 28 a []) ho1 ⟨_, hw, hf.sub ⟨rfl, rfl, rfl, rfl, trivial⟩⟩ ?_ ?_)
  · rintro s2 lr a w ⟨ρ, hw, hf⟩ hF
    replace hF : impl_isForm_l1 a0 a1 a2 s2 = some lr := hF
    unfold impl_isForm_l1 at hF
    refine c_seq <| c_region ?_
    refine s_ hf (r_lss hf rfl rfl) fun a hf => ?_
    refine c_nt <| c_seq ?_
    rcases of_ite hF with ⟨hb3, hF⟩ | ⟨hb3, hF⟩
    rotate_left
    · refine c_iff hf rfl hb3 <| c_exit <| x_then ?_
      obtain rfl := Option.some.inj hF
      exact Rnd.stops ⟨_, hw, hf.sub trivial⟩
    refine c_ift hf rfl hb3 <| c_skip <| n_then <| c_seq <| c_block <| c_seq <| c_region ?_
    refine s_ hf (r_move hf rfl) fun a hf => ?_
    obtain ⟨hc4, hF⟩ := of_guard hF
    refine s_ hf (r_index_lc Try.underlying80 ty5 hf rfl rfl hc4.1 hc4.2 (Lens.vec 0 fU8 s2 hc4.1 hc4.2) rfl) fun a hf => ?_
    refine s_ hf (r_assign hf rfl) fun a hf => ?_
    refine s_ hf (r_assign hf rfl) fun a hf => ?_
    refine c_nt <| c_seq ?_
    obtain ⟨s6, hT5, hG5⟩ := of_bind hF
    clear hF
    refine c_meet (fun (s6 : Bool) a w => ∃ ρ, Wd w0 ρ w ∧ Fr 28 a [(0, vI a0), (1, vI a1), (9, .agg (cForm.enc a2).toArray), (10, vI s2), (26, .bool s6)]) s6 ?_ ?_
    · have hF := hT5
      refine c_region ?_
      refine s_ hf (r_move hf rfl) fun a hf => ?_
      refine s_ hf (r_conv_u8_i64 Try.underlying5 Try.underlying2 hf rfl) fun a hf => ?_
      refine s_ hf (r_move hf rfl) fun a hf => ?_
      refine s_ hf (r_geq hf rfl rfl) fun a hf => ?_
      refine s_ hf (r_move hf rfl) fun a hf => ?_
      rcases of_ite hF with ⟨hb7, hF⟩ | ⟨hb7, hF⟩
      · refine st_no (b := true) hf rfl rfl rfl hb7 rfl (by decide) fun a hf => ?_
        refine st_no (b := true) hf rfl rfl rfl hb7 rfl (by decide) fun a hf => ?_
        refine st_no (b := true) hf rfl rfl rfl hb7 rfl (by decide) fun a hf => ?_
        refine st_nu hf rfl rfl rfl rfl (by decide) fun a hf => ?_
        refine st_nu hf rfl rfl rfl rfl (by decide) fun a hf => ?_
        refine st_nu hf rfl rfl rfl rfl (by decide) fun a hf => ?_
        refine st_no (b := true) hf rfl rfl rfl hb7 rfl (by decide) fun a hf => ?_
        refine s_ hf (r_pick (b := true) hf rfl hb7 rfl) fun a hf => ?_
        refine c_nil ⟨rfl, ?_⟩
        obtain rfl := Option.some.inj hF
        exact ⟨_, hw, hf.sub ⟨rfl, rfl, rfl, rfl, rfl, trivial⟩⟩
      refine st_g (b := false) hf rfl rfl rfl hb7 rfl (by decide) (r_move hf rfl) fun a hf => ?_
      refine st_g (b := false) hf rfl rfl rfl hb7 rfl (by decide) (r_neq hf rfl rfl) fun a hf => ?_
      refine st_g (b := false) hf rfl rfl rfl hb7 rfl (by decide) (r_move hf rfl) fun a hf => ?_
      rcases of_ite hF with ⟨hb8, hF⟩ | ⟨hb8, hF⟩
      rotate_left
      · refine st_no (b := false) hf rfl rfl rfl hb8 rfl (by decide) fun a hf => ?_
        refine st_no (b := false) hf rfl rfl rfl hb8 rfl (by decide) fun a hf => ?_
        refine st_no (b := false) hf rfl rfl rfl hb8 rfl (by decide) fun a hf => ?_
        refine st_g (b := false) hf rfl rfl rfl hb7 rfl (by decide) (r_pick (b := false) hf rfl hb8 rfl) fun a hf => ?_
        refine s_ hf (r_pick (b := false) hf rfl hb7 rfl) fun a hf => ?_
        refine c_nil ⟨rfl, ?_⟩
        obtain rfl := Option.some.inj hF
        exact ⟨_, hw, hf.sub ⟨rfl, rfl, rfl, rfl, rfl, trivial⟩⟩
      refine st_g (b := true) hf rfl rfl rfl hb8 rfl (by decide) (r_move hf rfl) fun a hf => ?_
      refine st_g (b := true) hf rfl rfl rfl hb8 rfl (by decide) (r_move hf rfl) fun a hf => ?_
      refine st_g (b := true) hf rfl rfl rfl hb8 rfl (by decide) (r_geq hf rfl rfl) fun a hf => ?_
      refine st_g (b := false) hf rfl rfl rfl hb7 rfl (by decide) (r_pick (b := true) hf rfl hb8 rfl) fun a hf => ?_
      refine s_ hf (r_pick (b := false) hf rfl hb7 rfl) fun a hf => ?_
      refine c_nil ⟨rfl, ?_⟩
      obtain rfl := Option.some.inj hF
      exact ⟨_, hw, hf.sub ⟨rfl, rfl, rfl, rfl, rfl, trivial⟩⟩
    rintro a w ⟨ρ, hw, hf⟩
    have hF := hG5
    refine n_then ?_
    rcases of_ite hF with ⟨hb9, hF⟩ | ⟨hb9, hF⟩
    rotate_left
    · refine c_iff hf rfl hb9 <| c_skip <| n_block <| n_then <| c_region ?_
      refine s_ hf (r_add hf rfl rfl) fun a hf => ?_
      refine s_ hf (r_move hf rfl) fun a hf => ?_
      refine c_nil ?_
      obtain rfl := Option.some.inj hF
      exact Rnd.goes ⟨_, hw, hf.sub ⟨rfl, rfl, rfl, rfl, trivial⟩⟩
    refine c_ift hf rfl hb9 <| c_seq <| c_region ?_
    refine s_ hf (r_assign hf rfl) fun a hf => ?_
    refine c_nt <| c_retc ?_
    obtain rfl := Option.some.inj hF
    refine r_block <| r_then ?_
    refine Rnd.rets fun ho => ?_
    subst ho
    have hF := hG1
    dsimp only at hF
    obtain rfl := Option.some.inj hF
    refine r_block <| r_then <| c_ret hf (res_tmp Try.results162 hf rfl) ?_
    exact ⟨_, rfl, hw.below, rfl⟩
  rintro s2 a w hs ⟨ρ, hw, hf⟩
  subst hs
  have hF := hG1
  dsimp only at hF
  refine x_block <| n_then <| c_seq <| c_region ?_
  refine s_ hf (r_assign hf rfl) fun a hf => ?_
  refine c_nt <| c_retc ?_
  obtain rfl := Option.some.inj hF
  refine c_ret hf (res_tmp Try.results162 hf rfl) ?_
  exact ⟨_, rfl, hw.below, rfl⟩
/-! f163 -/
noncomputable def impl_hasZero (a0 : Prod) : Option Bool :=
  (if (decide (a0.1 = zForm)) = true then (some true) else (if (decide (a0.2.1 = zForm)) = true then (some true) else (some (decide (a0.2.2 = zForm))))).bind fun (s2 : Bool) => some (s2)
theorem impl_hasZero_ok {w0 : World} {a0 : Prod}   {r : Bool} (hF : impl_hasZero a0 = some r) :
    Calls Try.prog 163 [.agg (cProd.enc a0).toArray].toArray w0 fun e w => ∃ v, e = .returned v ∧ Below w0.heap.size w0 w ∧ .bool r = v := by
  refine calls_of (k := 19) Try.func163 rfl rfl (Nat.le_of_ble_eq_true rfl) fun a hf => ?_
  replace hf : Fr 19 a [(0, .agg (cProd.enc a0).toArray)] := hf
  refine c_start fun w ρ hw => ?_
  unfold impl_hasZero at hF
  refine c_seq <| c_region ?_
  refine sx_ hf (r_box (cs := cProd.enc a0) 1 hw hf rfl rfl) fun a v w hf hΦ => ?_
  obtain ⟨g1, ρ, rfl, hw, hE, o1⟩ := hΦ
  refine s_ hf (r_assign hf rfl) fun a hf => ?_
  refine c_nt <| c_seq ?_
  obtain ⟨s2, hT1, hG1⟩ := of_bind hF
  clear hF
  refine c_meet (fun (s2 : Bool) a w => ∃ ρ, Wd w0 ρ w ∧ Fr 19 a [(2, .bool s2)]) s2 ?_ ?_
  · have hF := hT1
    refine c_region ?_
    refine s_ hf (r_fa fa82_0 hf rfl) fun a hf => ?_
    refine s_ hf (r_load_agg ty80 hf rfl (o1.cl.lens lProd_0) (cForm.len _)) fun a hf => ?_
    refine s_ hf (r_build_arr (vs := []) (res := (cForm.enc zForm).toArray) Try.underlying80 sz5 ze80 hf rfl rfl rfl) fun a hf => ?_
    refine s_ hf (r_eq (d := cForm) eq80 ⟨_, rfl⟩ gt80 hf rfl rfl) fun a hf => ?_
    refine s_ hf (r_move hf rfl) fun a hf => ?_
    rcases of_ite hF with ⟨hb3, hF⟩ | ⟨hb3, hF⟩
    · refine st_no (b := true) hf rfl rfl rfl hb3 rfl (by decide) fun a hf => ?_
      refine st_no (b := true) hf rfl rfl rfl hb3 rfl (by decide) fun a hf => ?_
      refine st_no (b := true) hf rfl rfl rfl hb3 rfl (by decide) fun a hf => ?_
      refine st_no (b := true) hf rfl rfl rfl hb3 rfl (by decide) fun a hf => ?_
      refine s_ hf (r_pick (b := true) hf rfl hb3 rfl) fun a hf => ?_
      refine s_ hf (r_move hf rfl) fun a hf => ?_
      refine st_no (b := true) hf rfl rfl rfl rfl rfl (by decide) fun a hf => ?_
      refine st_no (b := true) hf rfl rfl rfl rfl rfl (by decide) fun a hf => ?_
      refine st_no (b := true) hf rfl rfl rfl rfl rfl (by decide) fun a hf => ?_
      refine st_no (b := true) hf rfl rfl rfl rfl rfl (by decide) fun a hf => ?_
      refine s_ hf (r_pick (b := true) hf rfl rfl rfl) fun a hf => ?_
      refine s_ hf (r_assign hf rfl) fun a hf => ?_
      refine c_nil ⟨rfl, ?_⟩
      obtain rfl := Option.some.inj hF
      exact ⟨_, hw, hf.sub ⟨rfl, trivial⟩⟩
    refine st_g (b := false) hf rfl rfl rfl hb3 rfl (by decide) (r_fa fa82_1 hf rfl) fun a hf => ?_
    refine st_g (b := false) hf rfl rfl rfl hb3 rfl (by decide) (r_load_agg ty80 hf rfl (o1.cl.lens lProd_1) (cForm.len _)) fun a hf => ?_
    refine st_g (b := false) hf rfl rfl rfl hb3 rfl (by decide) (r_build_arr (vs := []) (res := (cForm.enc zForm).toArray) Try.underlying80 sz5 ze80 hf rfl rfl rfl) fun a hf => ?_
    refine st_g (b := false) hf rfl rfl rfl hb3 rfl (by decide) (r_eq (d := cForm) eq80 ⟨_, rfl⟩ gt80 hf rfl rfl) fun a hf => ?_
    refine s_ hf (r_pick (b := false) hf rfl hb3 rfl) fun a hf => ?_
    refine s_ hf (r_move hf rfl) fun a hf => ?_
    rcases of_ite hF with ⟨hb4, hF⟩ | ⟨hb4, hF⟩
    · refine st_no (b := true) hf rfl rfl rfl hb4 rfl (by decide) fun a hf => ?_
      refine st_no (b := true) hf rfl rfl rfl hb4 rfl (by decide) fun a hf => ?_
      refine st_no (b := true) hf rfl rfl rfl hb4 rfl (by decide) fun a hf => ?_
      refine st_no (b := true) hf rfl rfl rfl hb4 rfl (by decide) fun a hf => ?_
      refine s_ hf (r_pick (b := true) hf rfl hb4 rfl) fun a hf => ?_
      refine s_ hf (r_assign hf rfl) fun a hf => ?_
      refine c_nil ⟨rfl, ?_⟩
      obtain rfl := Option.some.inj hF
      exact ⟨_, hw, hf.sub ⟨rfl, trivial⟩⟩
    refine st_g (b := false) hf rfl rfl rfl hb4 rfl (by decide) (r_fa fa82_2 hf rfl) fun a hf => ?_
    refine st_g (b := false) hf rfl rfl rfl hb4 rfl (by decide) (r_load_agg ty80 hf rfl (o1.cl.lens lProd_2) (cForm.len _)) fun a hf => ?_
    refine st_g (b := false) hf rfl rfl rfl hb4 rfl (by decide) (r_build_arr (vs := []) (res := (cForm.enc zForm).toArray) Try.underlying80 sz5 ze80 hf rfl rfl rfl) fun a hf => ?_
    refine st_g (b := false) hf rfl rfl rfl hb4 rfl (by decide) (r_eq (d := cForm) eq80 ⟨_, rfl⟩ gt80 hf rfl rfl) fun a hf => ?_
    refine s_ hf (r_pick (b := false) hf rfl hb4 rfl) fun a hf => ?_
    refine s_ hf (r_assign hf rfl) fun a hf => ?_
    refine c_nil ⟨rfl, ?_⟩
    obtain rfl := Option.some.inj hF
    exact ⟨_, hw, hf.sub ⟨rfl, trivial⟩⟩
  rintro a w ⟨ρ, hw, hf⟩
  have hF := hG1
  refine n_then <| c_retc ?_
  obtain rfl := Option.some.inj hF
  refine c_ret hf (res_tmp Try.results163 hf rfl) ?_
  exact ⟨_, rfl, hw.below, rfl⟩
/-! f129 -/
noncomputable def impl_isProduct_l3 (a0 : Int) (a1 : Vec3) (x1 : Forms) (s4 : Int) : Option (LR Int Bool) :=
  if (decide (s4 < 3)) = true then (if 0 ≤ s4 ∧ s4 < 3 then ((impl_isForm a0 (vg 0 a1 s4) (vg zForm x1 s4)).bind fun x7 => if (!x7) = true then (some (.ret false)) else (some (.next (w64 (s4 + 1))))) else none) else (some (.stop s4))
noncomputable def impl_isProduct (a0 : Int) (a1 : Vec3) (a2 : Prod) : Option Bool :=
  (impl_factors a2).bind fun x1 => (iter (fun s => impl_isProduct_l3 a0 a1 x1 s) 0).bind fun o => match o with | .stop s4 => ((impl_hasZero a2).bind fun x10 => some (!x10)) | .ret r => some r | .next _ => none
theorem impl_isProduct_ok {w0 : World} {a0 : Int} {a1 : Vec3} {a2 : Prod}   {r : Bool} (hF : impl_isProduct a0 a1 a2 = some r) :
    Calls Try.prog 129 [vI a0, .agg (cVec3.enc a1).toArray, .agg (cProd.enc a2).toArray].toArray w0 fun e w => ∃ v, e = .returned v ∧ Below w0.heap.size w0 w ∧ .bool r = v := by
  refine calls_of (k := 26) Try.func129 rfl rfl (Nat.le_of_ble_eq_true rfl) fun a hf => ?_
  replace hf : Fr 26 a [(0, vI a0), (1, .agg (cVec3.enc a1).toArray), (2, .agg (cProd.enc a2).toArray)] := hf
  refine c_start fun w ρ hw => ?_
  unfold impl_isProduct at hF
  refine c_seq <| c_region ?_
  refine sx_ hf (r_box (cs := cVec3.enc a1) 1 hw hf rfl rfl) fun a v w hf hΦ => ?_
  obtain ⟨g1, ρ, rfl, hw, hE, o1⟩ := hΦ
  refine sx_ hf (r_box (cs := cProd.enc a2) 2 hw hf rfl rfl) fun a v w hf hΦ => ?_
  obtain ⟨g2, ρ, rfl, hw, hE, o2⟩ := hΦ
  replace o1 := o1.ext hE
  refine s_ hf (r_assign hf rfl) fun a hf => ?_
  refine c_nt <| c_seq <| c_seq <| c_region ?_
  refine s_ hf (r_load_agg ty82 hf rfl o2.cl (cProd.len _)) fun a hf => ?_
  obtain ⟨x1, hx2, hF⟩ := of_bind hF
  refine st_fn 3 hw hf rfl rfl (by decide) (r_fn en161 hf rfl) (impl_factors_ok  hx2) fun a v w ρ hf hw hE hN hΦ => ?_
  obtain rfl := hΦ
  replace o1 := o1.ext hE
  replace o2 := o2.ext hE
  refine s_ hf (r_move hf rfl) fun a hf => ?_
  refine c_nt ?_
  obtain ⟨ol3, ho3, hG3⟩ := of_bind hF
  clear hF
  refine c_block (c_loop (id := 0) (fun s => impl_isProduct_l3 a0 a1 x1 s) (fun (s4 : Int) a w => ∃ ρ, Wd w0 ρ w ∧ Fr 26 a [(0, vI a0), (4, .pointer (some ((⟨g1, 0, none⟩ : Addr).add 0))), (5, .pointer (some ((⟨g2, 0, none⟩ : Addr).add 0))), (10, .agg (cForms.enc x1).toArray), (11, vI s4)] ∧ Va ρ w 1 g1 84 (cVec3.enc a1) ∧ Va ρ w 2 g2 82 (cProd.enc a2)) (fun (s4 : Int) a w => ∃ ρ, Wd w0 ρ w ∧ Fr 26 a [(5, .pointer (some ((⟨g2, 0, none⟩ : Addr).add 0)))] ∧ Va ρ w 2 g2 82 (cProd.enc a2)) ho3 ⟨_, hw, hf.sub ⟨rfl, rfl, rfl, rfl, rfl, trivial⟩, o1, o2⟩ ?_ ?_)
  · rintro s4 lr a w ⟨ρ, hw, hf, o1, o2⟩ hF
    replace hF : impl_isProduct_l3 a0 a1 x1 s4 = some lr := hF
    unfold impl_isProduct_l3 at hF
    refine c_seq <| c_region ?_
    refine s_ hf (r_lss hf rfl rfl) fun a hf => ?_
    refine c_nt <| c_seq ?_
    rcases of_ite hF with ⟨hb5, hF⟩ | ⟨hb5, hF⟩
    rotate_left
    · refine c_iff hf rfl hb5 <| c_exit <| x_then ?_
      obtain rfl := Option.some.inj hF
      exact Rnd.stops ⟨_, hw, hf.sub ⟨rfl, trivial⟩, o2⟩
    refine c_ift hf rfl hb5 <| c_skip <| n_then <| c_seq <| c_block <| c_seq <| c_region ?_
    refine s_ hf (r_move hf rfl) fun a hf => ?_
    obtain ⟨hc6, hF⟩ := of_guard hF
    refine s_ hf (r_index_la Try.underlying154 ty80 hf rfl rfl hc6.1 hc6.2 (Lens.vec zForm cForm s4 hc6.1 hc6.2)) fun a hf => ?_
    refine sx_ hf (r_alloc (cs := cForm.enc zForm) 4 ze80 rfl hw) fun a v w hf hΦ => ?_
    obtain ⟨g4, ρ, rfl, hw, hE, o4⟩ := hΦ
    replace o1 := o1.ext hE
    replace o2 := o2.ext hE
    refine s_ hf (r_assign hf rfl) fun a hf => ?_
    refine sk_ hf (r_store_w (cs' := cForm.enc (vg zForm x1 s4)) hw o4 (by decide) ty80 (cForm.len _) (cForm.len _) (cForm.one _) hf rfl rfl rfl) fun a w hf hΦ => ?_
    obtain ⟨hw, hA, o4⟩ := hΦ
    replace o1 := o1.adv hA (by decide)
    replace o2 := o2.adv hA (by decide)
    refine c_nt <| c_seq ?_
    replace hf : Fr 26 a [(0, vI a0), (4, .pointer (some ((⟨g1, 0, none⟩ : Addr).add 0))), (5, .pointer (some ((⟨g2, 0, none⟩ : Addr).add 0))), (7, vI s4), (8, .pointer (some ((⟨g4, 0, none⟩ : Addr).add 0))), (10, .agg (cForms.enc x1).toArray), (11, vI s4)] := hf.sub ⟨rfl, rfl, rfl, rfl, rfl, rfl, rfl, trivial⟩
    refine c_drawL (h := 5) mixed (by kernel_rfl) (by kernel_rfl) (fun ρ w => Va ρ w 1 g1 84 (cVec3.enc a1) ∧ Va ρ w 2 g2 82 (cProd.enc a2) ∧ Va ρ w 4 g4 80 (cForm.enc (vg zForm x1 s4))) ?_ [fun ρ w v => vI a0 = v, fun ρ w v => vI s4 = v, fun ρ w v => .pointer (some ((⟨g1, 0, none⟩ : Addr).add (0 + s4.toNat * 1))) = v, fun ρ w v => vI (vg 0 a1 s4) = v, fun ρ w v => .agg (cForm.enc (vg zForm x1 s4)).toArray = v] ?_ hw ⟨o1, o2, o4⟩ hf ?_ ?_
    · intro ρ w ρ' w' hE hG
      obtain ⟨o1, o2, o4⟩ := hG
      exact ⟨o1.ext hE, o2.ext hE, o4.ext hE⟩
    · exact LastsL.cons (fun _ _ _ _ _ _ h => h) <| LastsL.cons (fun _ _ _ _ _ _ h => h) <| LastsL.cons (fun _ _ _ _ _ _ h => h) <| LastsL.cons (fun _ _ _ _ _ _ h => h) <| LastsL.cons (fun _ _ _ _ _ _ h => h) <| LastsL.nil
    · refine StepsB.cons ?_ <| StepsB.cons ?_ <| StepsB.cons ?_ <| StepsB.cons ?_ <| StepsB.cons ?_ <| StepsB.nil
      · intro ρ w a hw hG hf hd K hK
        obtain ⟨o1, o2, o4⟩ := hG
        exact dv_ hK hw (wn rfl) (r_move hf rfl) rfl
      · intro ρ w a hw hG hf hd K hK
        obtain ⟨o1, o2, o4⟩ := hG
        exact dv_ hK hw (wn rfl) (r_move hf rfl) rfl
      · intro ρ w a hw hG hf hd K hK
        obtain ⟨o1, o2, o4⟩ := hG
        obtain ⟨_, hf, rfl⟩ := got (hd 1 (by kernel_rfl)) hf
        exact dv_ hK hw (wn rfl) (r_indexAddr_arr Try.underlying84 sz2 hf rfl rfl hc6.1 hc6.2) rfl
      · intro ρ w a hw hG hf hd K hK
        obtain ⟨o1, o2, o4⟩ := hG
        obtain ⟨_, hf, rfl⟩ := got (hd 2 (by kernel_rfl)) hf
        exact dv_ hK hw (wn rfl) (r_load_cell ty2 hf rfl (o1.cl.lens (Lens.vec 0 fI64 s4 hc6.1 hc6.2))) rfl
      · intro ρ w a hw hG hf hd K hK
        obtain ⟨o1, o2, o4⟩ := hG
        exact dv_ hK hw (wn rfl) (r_load_agg ty80 hf rfl o4.cl (cForm.len _)) rfl
    intro ρ w a hw hG hf hd
    obtain ⟨o1, o2, o4⟩ := hG
    obtain ⟨_, hf, rfl⟩ := got (hd 0 (by decide)) hf
    obtain ⟨_, hf, rfl⟩ := got (hd 3 (by decide)) hf
    obtain ⟨_, hf, rfl⟩ := got (hd 4 (by decide)) hf
    obtain ⟨x7, hx8, hF⟩ := of_bind hF
    refine st_fn 5 hw hf rfl rfl (by decide) (r_fn en162 hf rfl) (impl_isForm_ok  hx8) fun a v w ρ hf hw hE hN hΦ => ?_
    obtain rfl := hΦ
    replace o1 := o1.ext hE
    replace o2 := o2.ext hE
    replace o4 := o4.ext hE
    refine s_ hf (r_not hf rfl) fun a hf => ?_
    refine c_nt ?_
    rcases of_ite hF with ⟨hb9, hF⟩ | ⟨hb9, hF⟩
    rotate_left
    · refine c_iff hf rfl hb9 <| c_skip <| n_block <| n_then <| c_region ?_
      refine s_ hf (r_add hf rfl rfl) fun a hf => ?_
      refine s_ hf (r_move hf rfl) fun a hf => ?_
      refine c_nil ?_
      obtain rfl := Option.some.inj hF
      exact Rnd.goes ⟨_, hw, hf.sub ⟨rfl, rfl, rfl, rfl, rfl, trivial⟩, o1, o2⟩
    refine c_ift hf rfl hb9 <| c_seq <| c_region ?_
    refine s_ hf (r_assign hf rfl) fun a hf => ?_
    refine c_nt <| c_retc ?_
    obtain rfl := Option.some.inj hF
    refine r_block <| r_then ?_
    refine Rnd.rets fun ho => ?_
    subst ho
    have hF := hG3
    dsimp only at hF
    obtain rfl := Option.some.inj hF
    refine r_block <| r_then <| c_ret hf (res_tmp Try.results129 hf rfl) ?_
    exact ⟨_, rfl, hw.below, rfl⟩
  rintro s4 a w hs ⟨ρ, hw, hf, o2⟩
  subst hs
  have hF := hG3
  dsimp only at hF
  refine x_block <| n_then <| c_seq <| c_region ?_
  refine s_ hf (r_load_agg ty82 hf rfl o2.cl (cProd.len _)) fun a hf => ?_
  obtain ⟨x10, hx11, hF⟩ := of_bind hF
  refine st_fn 6 hw hf rfl rfl (by decide) (r_fn en163 hf rfl) (impl_hasZero_ok  hx11) fun a v w ρ hf hw hE hN hΦ => ?_
  obtain rfl := hΦ
  replace o2 := o2.ext hE
  refine s_ hf (r_not hf rfl) fun a hf => ?_
  refine s_ hf (r_assign hf rfl) fun a hf => ?_
  refine c_nt <| c_retc ?_
  obtain rfl := Option.some.inj hF
  refine c_ret hf (res_tmp Try.results129 hf rfl) ?_
  exact ⟨_, rfl, hw.below, rfl⟩
/-! f130 -/
noncomputable def impl_placesOf (a0 : Sch) : Option Vec3 :=
  some ((#v[w64 (a0.n * a0.m), w64 (a0.m * a0.k), w64 (a0.n * a0.k)] : Vec3))
theorem impl_placesOf_ok {w0 : World} {a0 : Sch} {va0 : Value} (h0 : Ro (kf cProd) w0 va0 a0.ps) {r : Vec3} (hF : impl_placesOf a0 = some r) :
    Calls Try.prog 130 [.agg ([vI a0.p, vI a0.n, vI a0.m, vI a0.k, va0]).toArray].toArray w0 fun e w => ∃ v, e = .returned v ∧ Below w0.heap.size w0 w ∧ .agg (cVec3.enc r).toArray = v := by
  refine calls_of (k := 19) Try.func130 rfl rfl (Nat.le_of_ble_eq_true rfl) fun a hf => ?_
  replace hf : Fr 19 a [(0, .agg ([vI a0.p, vI a0.n, vI a0.m, vI a0.k, va0]).toArray)] := hf
  refine c_start fun w ρ hw => ?_
  unfold impl_placesOf at hF
  refine c_seq <| c_region ?_
  refine sx_ hf (r_box (cs := [vI a0.p, vI a0.n, vI a0.m, vI a0.k, va0]) 1 hw hf rfl rfl) fun a v w hf hΦ => ?_
  obtain ⟨g1, ρ, rfl, hw, hE, o1⟩ := hΦ
  refine sx_ hf (r_alloc (cs := cVec3.enc zVec3) 2 ze84 rfl hw) fun a v w hf hΦ => ?_
  obtain ⟨g2, ρ, rfl, hw, hE, o2⟩ := hΦ
  replace o1 := o1.ext hE
  refine c_nt <| c_seq <| c_region ?_
  refine s_ hf (r_fa fa39_1 hf rfl) fun a hf => ?_
  refine s_ hf (r_load_cell ty2 hf rfl (o1.cl.at_ 1 _ rfl)) fun a hf => ?_
  refine s_ hf (r_fa fa39_2 hf rfl) fun a hf => ?_
  refine s_ hf (r_load_cell ty2 hf rfl (o1.cl.at_ 2 _ rfl)) fun a hf => ?_
  refine s_ hf (r_mul hf rfl rfl) fun a hf => ?_
  refine s_ hf (r_fa fa39_2 hf rfl) fun a hf => ?_
  refine s_ hf (r_load_cell ty2 hf rfl (o1.cl.at_ 2 _ rfl)) fun a hf => ?_
  refine s_ hf (r_fa fa39_3 hf rfl) fun a hf => ?_
  refine s_ hf (r_load_cell ty2 hf rfl (o1.cl.at_ 3 _ rfl)) fun a hf => ?_
  refine s_ hf (r_mul hf rfl rfl) fun a hf => ?_
  refine s_ hf (r_fa fa39_1 hf rfl) fun a hf => ?_
  refine s_ hf (r_load_cell ty2 hf rfl (o1.cl.at_ 1 _ rfl)) fun a hf => ?_
  refine s_ hf (r_fa fa39_3 hf rfl) fun a hf => ?_
  refine s_ hf (r_load_cell ty2 hf rfl (o1.cl.at_ 3 _ rfl)) fun a hf => ?_
  refine s_ hf (r_mul hf rfl rfl) fun a hf => ?_
  refine s_ hf (r_build_arr (vs := [(0, vI (w64 (a0.n * a0.m))), (1, vI (w64 (a0.m * a0.k))), (2, vI (w64 (a0.n * a0.k)))]) (res := (cVec3.enc (#v[w64 (a0.n * a0.m), w64 (a0.m * a0.k), w64 (a0.n * a0.k)] : Vec3)).toArray) Try.underlying84 sz2 ze84 hf rfl rfl ((fill_lens (d := cVec3) (z := zVec3) (Lens.vec 0 fI64 (0 : Int) (by decide) (by decide)) rfl rfl).trans ((fill_lens (d := cVec3) (z := vs zVec3 0 (w64 (a0.n * a0.m))) (Lens.vec 0 fI64 (1 : Int) (by decide) (by decide)) rfl rfl).trans ((fill_lens (d := cVec3) (z := vs (vs zVec3 0 (w64 (a0.n * a0.m))) 1 (w64 (a0.m * a0.k))) (Lens.vec 0 fI64 (2 : Int) (by decide) (by decide)) rfl rfl).trans rfl)))) fun a hf => ?_
  refine sk_ hf (r_store_w (cs' := cVec3.enc (#v[w64 (a0.n * a0.m), w64 (a0.m * a0.k), w64 (a0.n * a0.k)] : Vec3)) hw o2 (by decide) ty84 (cVec3.len _) (cVec3.len _) (cVec3.one _) hf rfl rfl rfl) fun a w hf hΦ => ?_
  obtain ⟨hw, hA, o2⟩ := hΦ
  replace o1 := o1.adv hA (by decide)
  refine c_nt <| c_retc ?_
  obtain rfl := Option.some.inj hF
  refine c_ret hf (res_cell Try.results130 ty84 hf rfl o2.cl (cVec3.len _)) ?_
  exact ⟨_, rfl, hw.below, rfl⟩
/-! f84 -/
noncomputable def impl_IsScheme_l10 (a0 : Sch) (s11 : Int) : Option (LR Int Bool) :=
  if (decide (s11 < (a0.ps.length : Int))) = true then (if 0 ≤ s11 ∧ s11 < (a0.ps.length : Int) then ((impl_placesOf a0).bind fun x15 => (impl_isProduct a0.p x15 (gl zProd a0.ps s11)).bind fun x17 => if (!x17) = true then (some (.ret false)) else (some (.next (w64 (s11 + 1))))) else none) else (some (.stop s11))
noncomputable def impl_IsScheme (a0 : Sch) : Option Bool :=
  ((impl_isPrime a0.p).bind fun x3 => if (!x3) = true then (some true) else ((impl_isSize ([a0.n, a0.m, a0.k])).bind fun x6 => if (!x6) = true then (some true) else (some (decide (30 < (a0.ps.length : Int)))))).bind fun (s2 : Bool) => if s2 = true then (some (false)) else ((iter (fun s => impl_IsScheme_l10 a0 s) 0).bind fun o => match o with | .stop s11 => (some (true)) | .ret r => some r | .next _ => none)
theorem impl_IsScheme_ok {w0 : World} {a0 : Sch} {va0 : Value} (h0 : Ro (kf cProd) w0 va0 a0.ps) {r : Bool} (hF : impl_IsScheme a0 = some r) :
    Calls Try.prog 84 [.agg ([vI a0.p, vI a0.n, vI a0.m, vI a0.k, va0]).toArray].toArray w0 fun e w => ∃ v, e = .returned v ∧ Below w0.heap.size w0 w ∧ .bool r = v := by
  refine calls_of (k := 41) Try.func84 rfl rfl (Nat.le_of_ble_eq_true rfl) fun a hf => ?_
  replace hf : Fr 41 a [(0, .agg ([vI a0.p, vI a0.n, vI a0.m, vI a0.k, va0]).toArray)] := hf
  refine c_start fun w ρ hw => ?_
  unfold impl_IsScheme at hF
  refine c_seq <| c_region ?_
  refine sx_ hf (r_box (cs := [vI a0.p, vI a0.n, vI a0.m, vI a0.k, va0]) 1 hw hf rfl rfl) fun a v w hf hΦ => ?_
  obtain ⟨g1, ρ, rfl, hw, hE, o1⟩ := hΦ
  refine s_ hf (r_assign hf rfl) fun a hf => ?_
  refine c_nt <| c_seq <| c_seq ?_
  obtain ⟨s2, hT1, hG1⟩ := of_bind hF
  clear hF
  refine c_meet (fun (s2 : Bool) a w => ∃ ρ, Wd w0 ρ w ∧ Fr 41 a [(1, .pointer (some ((⟨g1, 0, none⟩ : Addr).add 0))), (25, .bool s2)] ∧ Va ρ w 1 g1 39 ([vI a0.p, vI a0.n, vI a0.m, vI a0.k, va0])) s2 ?_ ?_
  · have hF := hT1
    refine c_region ?_
    refine s_ hf (r_fa fa39_0 hf rfl) fun a hf => ?_
    refine s_ hf (r_load_cell ty2 hf rfl (o1.cl.at_ 0 _ rfl)) fun a hf => ?_
    obtain ⟨x3, hx4, hF⟩ := of_bind hF
    refine st_fn 2 hw hf rfl rfl (by decide) (r_fn en62 hf rfl) (impl_isPrime_ok  hx4) fun a v w ρ hf hw hE hN hΦ => ?_
    obtain rfl := hΦ
    replace o1 := o1.ext hE
    refine s_ hf (r_not hf rfl) fun a hf => ?_
    refine s_ hf (r_move hf rfl) fun a hf => ?_
    rcases of_ite hF with ⟨hb5, hF⟩ | ⟨hb5, hF⟩
    · refine st_no (b := true) hf rfl rfl rfl hb5 rfl (by decide) fun a hf => ?_
      refine st_no (b := true) hf rfl rfl rfl hb5 rfl (by decide) fun a hf => ?_
      refine st_no (b := true) hf rfl rfl rfl hb5 rfl (by decide) fun a hf => ?_
      refine st_no (b := true) hf rfl rfl rfl hb5 rfl (by decide) fun a hf => ?_
      refine st_no (b := true) hf rfl rfl rfl hb5 rfl (by decide) fun a hf => ?_
      refine st_no (b := true) hf rfl rfl rfl hb5 rfl (by decide) fun a hf => ?_
      refine st_no (b := true) hf rfl rfl rfl hb5 rfl (by decide) fun a hf => ?_
      refine st_no (b := true) hf rfl rfl rfl hb5 rfl (by decide) fun a hf => ?_
      refine st_no (b := true) hf rfl rfl rfl hb5 rfl (by decide) fun a hf => ?_
      refine s_ hf (r_pick (b := true) hf rfl hb5 rfl) fun a hf => ?_
      refine s_ hf (r_move hf rfl) fun a hf => ?_
      refine st_no (b := true) hf rfl rfl rfl rfl rfl (by decide) fun a hf => ?_
      refine st_no (b := true) hf rfl rfl rfl rfl rfl (by decide) fun a hf => ?_
      refine st_no (b := true) hf rfl rfl rfl rfl rfl (by decide) fun a hf => ?_
      refine st_no (b := true) hf rfl rfl rfl rfl rfl (by decide) fun a hf => ?_
      refine s_ hf (r_pick (b := true) hf rfl rfl rfl) fun a hf => ?_
      refine c_nil ⟨rfl, ?_⟩
      obtain rfl := Option.some.inj hF
      exact ⟨_, hw, hf.sub ⟨rfl, rfl, trivial⟩, o1⟩
    refine st_g (b := false) hf rfl rfl rfl hb5 rfl (by decide) (r_fa fa39_1 hf rfl) fun a hf => ?_
    refine st_g (b := false) hf rfl rfl rfl hb5 rfl (by decide) (r_load_cell ty2 hf rfl (o1.cl.at_ 1 _ rfl)) fun a hf => ?_
    refine st_g (b := false) hf rfl rfl rfl hb5 rfl (by decide) (r_fa fa39_2 hf rfl) fun a hf => ?_
    refine st_g (b := false) hf rfl rfl rfl hb5 rfl (by decide) (r_load_cell ty2 hf rfl (o1.cl.at_ 2 _ rfl)) fun a hf => ?_
    refine st_g (b := false) hf rfl rfl rfl hb5 rfl (by decide) (r_fa fa39_3 hf rfl) fun a hf => ?_
    refine st_g (b := false) hf rfl rfl rfl hb5 rfl (by decide) (r_load_cell ty2 hf rfl (o1.cl.at_ 3 _ rfl)) fun a hf => ?_
    refine st_gex (b := false) hf rfl rfl rfl hb5 rfl (by decide) (r_lit (d := fI64) (xs := ([a0.n, a0.m, a0.k] : List Int)) (vs := [vI a0.n, vI a0.m, vI a0.k]) 3 Try.underlying36 el2 (Nat.le_of_ble_eq_true rfl) (Nat.le_of_ble_eq_true rfl) hw hf rfl rfl rfl) fun a v3 w hf hΦ => ?_
    obtain ⟨ρ, hw, hE, o3⟩ := hΦ
    replace o1 := o1.ext hE
    obtain ⟨x6, hx7, hF⟩ := of_bind hF
    refine st_gfn (b := false) 4 hw hf rfl rfl rfl hb5 rfl (by decide) (r_fn en63 hf rfl) (impl_isSize_ok o3.ro hx7) fun a v w ρ hf hw hE hN hΦ => ?_
    obtain rfl := hΦ
    replace o1 := o1.ext hE
    replace o3 := o3.ext hE
    refine st_g (b := false) hf rfl rfl rfl hb5 rfl (by decide) (r_not hf rfl) fun a hf => ?_
    refine s_ hf (r_pick (b := false) hf rfl hb5 rfl) fun a hf => ?_
    refine s_ hf (r_move hf rfl) fun a hf => ?_
    rcases of_ite hF with ⟨hb8, hF⟩ | ⟨hb8, hF⟩
    · refine st_no (b := true) hf rfl rfl rfl hb8 rfl (by decide) fun a hf => ?_
      refine st_no (b := true) hf rfl rfl rfl hb8 rfl (by decide) fun a hf => ?_
      refine st_no (b := true) hf rfl rfl rfl hb8 rfl (by decide) fun a hf => ?_
      refine st_no (b := true) hf rfl rfl rfl hb8 rfl (by decide) fun a hf => ?_
      refine s_ hf (r_pick (b := true) hf rfl hb8 rfl) fun a hf => ?_
      refine c_nil ⟨rfl, ?_⟩
      obtain rfl := Option.some.inj hF
      exact ⟨_, hw, hf.sub ⟨rfl, rfl, trivial⟩, o1⟩
    refine st_g (b := false) hf rfl rfl rfl hb8 rfl (by decide) (r_fa fa39_4 hf rfl) fun a hf => ?_
    refine st_g (b := false) hf rfl rfl rfl hb8 rfl (by decide) (r_load_cell ty37 hf rfl (o1.cl.at_ 4 _ rfl)) fun a hf => ?_
    refine st_g (b := false) hf rfl rfl rfl hb8 rfl (by decide) (r_len Try.underlying37 (h0.now hw) hf rfl) fun a hf => ?_
    refine st_g (b := false) hf rfl rfl rfl hb8 rfl (by decide) (r_gtr hf rfl rfl) fun a hf => ?_
    refine s_ hf (r_pick (b := false) hf rfl hb8 rfl) fun a hf => ?_
    refine c_nil ⟨rfl, ?_⟩
    obtain rfl := Option.some.inj hF
    exact ⟨_, hw, hf.sub ⟨rfl, rfl, trivial⟩, o1⟩
  rintro a w ⟨ρ, hw, hf, o1⟩
  have hF := hG1
  refine n_then ?_
  rcases of_ite hF with ⟨hb9, hF⟩ | ⟨hb9, hF⟩
  · refine c_ift hf rfl hb9 <| c_seq <| c_region ?_
    refine s_ hf (r_assign hf rfl) fun a hf => ?_
    refine c_nt <| c_retc ?_
    obtain rfl := Option.some.inj hF
    refine r_then <| c_ret hf (res_tmp Try.results84 hf rfl) ?_
    exact ⟨_, rfl, hw.below, rfl⟩
  refine c_iff hf rfl hb9 <| c_skip <| n_then <| c_seq <| c_seq <| c_region ?_
  refine s_ hf (r_fa fa39_4 hf rfl) fun a hf => ?_
  refine s_ hf (r_load_cell ty37 hf rfl (o1.cl.at_ 4 _ rfl)) fun a hf => ?_
  refine s_ hf (r_len Try.underlying37 (h0.now hw) hf rfl) fun a hf => ?_
  refine s_ hf (r_move hf rfl) fun a hf => ?_
  refine c_nt ?_
  obtain ⟨ol10, ho10, hG10⟩ := of_bind hF
  clear hF
  refine c_block (c_loop (id := 0) (fun s => impl_IsScheme_l10 a0 s) (fun (s11 : Int) a w => ∃ ρ, Wd w0 ρ w ∧ Fr 41 a [(1, .pointer (some ((⟨g1, 0, none⟩ : Addr).add 0))), (27, va0), (28, vI (a0.ps.length : Int)), (29, vI s11)] ∧ Va ρ w 1 g1 39 ([vI a0.p, vI a0.n, vI a0.m, vI a0.k, va0])) (fun (s11 : Int) a w => ∃ ρ, Wd w0 ρ w ∧ Fr 41 a []) ho10 ⟨_, hw, hf.sub ⟨rfl, rfl, rfl, rfl, trivial⟩, o1⟩ ?_ ?_)
  · rintro s11 lr a w ⟨ρ, hw, hf, o1⟩ hF
    replace hF : impl_IsScheme_l10 a0 s11 = some lr := hF
    unfold impl_IsScheme_l10 at hF
    refine c_seq <| c_region ?_
    refine s_ hf (r_lss hf rfl rfl) fun a hf => ?_
    refine c_nt <| c_seq ?_
    rcases of_ite hF with ⟨hb12, hF⟩ | ⟨hb12, hF⟩
    rotate_left
    · refine c_iff hf rfl hb12 <| c_exit <| x_then ?_
      obtain rfl := Option.some.inj hF
      exact Rnd.stops ⟨_, hw, hf.sub trivial⟩
    refine c_ift hf rfl hb12 <| c_skip <| n_then <| c_seq <| c_block <| c_seq <| c_region ?_
    obtain ⟨hc13, hF⟩ := of_guard hF
    obtain ⟨ad14, c14, he14, hl14⟩ := Ro.el cProd h0 zProd hc13.1 hc13.2
    refine s_ hf (r_idx Try.underlying37 sz82 hf rfl ⟨_, he14⟩ rfl hc13.1 hc13.2) fun a hf => ?_
    refine s_ hf (r_load_agg ty82 hf rfl (hl14.below hw.below) (cProd.len _)) fun a hf => ?_
    refine sx_ hf (r_alloc (cs := cProd.enc zProd) 5 ze82 rfl hw) fun a v w hf hΦ => ?_
    obtain ⟨g5, ρ, rfl, hw, hE, o5⟩ := hΦ
    replace o1 := o1.ext hE
    refine sk_ hf (r_store_w (cs' := cProd.enc (gl zProd a0.ps s11)) hw o5 (by decide) ty82 (cProd.len _) (cProd.len _) (cProd.one _) hf rfl rfl rfl) fun a w hf hΦ => ?_
    obtain ⟨hw, hA, o5⟩ := hΦ
    replace o1 := o1.adv hA (by decide)
    refine c_nt <| c_seq ?_
    obtain ⟨x15, hx16, hF⟩ := of_bind hF
    replace hf : Fr 41 a [(1, .pointer (some ((⟨g1, 0, none⟩ : Addr).add 0))), (4, .pointer (some ((⟨g5, 0, none⟩ : Addr).add 0))), (27, va0), (28, vI (a0.ps.length : Int)), (29, vI s11)] := hf.sub ⟨rfl, rfl, rfl, rfl, rfl, trivial⟩
    refine c_drawL (h := 5) mixed (by kernel_rfl) (by kernel_rfl) (fun ρ w => Va ρ w 1 g1 39 ([vI a0.p, vI a0.n, vI a0.m, vI a0.k, va0]) ∧ Va ρ w 5 g5 82 (cProd.enc (gl zProd a0.ps s11))) ?_ [fun ρ w v => .pointer (some ((⟨g1, 0, none⟩ : Addr).add (0 + 0))) = v, fun ρ w v => vI a0.p = v, fun ρ w v => .agg ([vI a0.p, vI a0.n, vI a0.m, vI a0.k, va0]).toArray = v, fun ρ w v => .agg (cVec3.enc x15).toArray = v, fun ρ w v => .agg (cProd.enc (gl zProd a0.ps s11)).toArray = v] ?_ hw ⟨o1, o5⟩ hf ?_ ?_
    · intro ρ w ρ' w' hE hG
      obtain ⟨o1, o5⟩ := hG
      exact ⟨o1.ext hE, o5.ext hE⟩
    · exact LastsL.cons (fun _ _ _ _ _ _ h => h) <| LastsL.cons (fun _ _ _ _ _ _ h => h) <| LastsL.cons (fun _ _ _ _ _ _ h => h) <| LastsL.cons (fun _ _ _ _ _ _ h => h) <| LastsL.cons (fun _ _ _ _ _ _ h => h) <| LastsL.nil
    · refine StepsB.cons ?_ <| StepsB.cons ?_ <| StepsB.cons ?_ <| StepsB.cons ?_ <| StepsB.cons ?_ <| StepsB.nil
      · intro ρ w a hw hG hf hd K hK
        obtain ⟨o1, o5⟩ := hG
        exact dv_ hK hw (wn rfl) (r_fa fa39_0 hf rfl) rfl
      · intro ρ w a hw hG hf hd K hK
        obtain ⟨o1, o5⟩ := hG
        obtain ⟨_, hf, rfl⟩ := got (hd 0 (by kernel_rfl)) hf
        exact dv_ hK hw (wn rfl) (r_load_cell ty2 hf rfl (o1.cl.at_ 0 _ rfl)) rfl
      · intro ρ w a hw hG hf hd K hK
        obtain ⟨o1, o5⟩ := hG
        exact dv_ hK hw (wn rfl) (r_load_agg ty39 hf rfl o1.cl rfl) rfl
      · intro ρ w a hw hG hf hd K hK
        obtain ⟨o1, o5⟩ := hG
        obtain ⟨_, hf, rfl⟩ := got (hd 2 (by kernel_rfl)) hf
        refine dc_ hK hw (wn rfl) (r_fn en130 hf rfl) (impl_placesOf_ok (a0 := a0) (h0.now hw) hx16) fun v w' hΦ => ?_
        obtain ⟨hb, hΦ⟩ := hΦ
        obtain rfl := hΦ
        have hE := Ext.new (ρ := ρ) 6 hb
        exact ⟨_, hw.new 6 hb, hE, rfl⟩
      · intro ρ w a hw hG hf hd K hK
        obtain ⟨o1, o5⟩ := hG
        exact dv_ hK hw (wn rfl) (r_load_agg ty82 hf rfl o5.cl (cProd.len _)) rfl
    intro ρ w a hw hG hf hd
    obtain ⟨o1, o5⟩ := hG
    obtain ⟨_, hf, rfl⟩ := got (hd 1 (by decide)) hf
    obtain ⟨_, hf, rfl⟩ := got (hd 3 (by decide)) hf
    obtain ⟨_, hf, rfl⟩ := got (hd 4 (by decide)) hf
    obtain ⟨x17, hx18, hF⟩ := of_bind hF
    refine st_fn 7 hw hf rfl rfl (by decide) (r_fn en129 hf rfl) (impl_isProduct_ok  hx18) fun a v w ρ hf hw hE hN hΦ => ?_
    obtain rfl := hΦ
    replace o1 := o1.ext hE
    replace o5 := o5.ext hE
    refine s_ hf (r_not hf rfl) fun a hf => ?_
    refine c_nt ?_
    rcases of_ite hF with ⟨hb19, hF⟩ | ⟨hb19, hF⟩
    rotate_left
    · refine c_iff hf rfl hb19 <| c_skip <| n_block <| n_then <| c_region ?_
      refine s_ hf (r_add hf rfl rfl) fun a hf => ?_
      refine s_ hf (r_move hf rfl) fun a hf => ?_
      refine c_nil ?_
      obtain rfl := Option.some.inj hF
      exact Rnd.goes ⟨_, hw, hf.sub ⟨rfl, rfl, rfl, rfl, trivial⟩, o1⟩
    refine c_ift hf rfl hb19 <| c_seq <| c_region ?_
    refine s_ hf (r_assign hf rfl) fun a hf => ?_
    refine c_nt <| c_retc ?_
    obtain rfl := Option.some.inj hF
    refine r_block <| r_then ?_
    refine Rnd.rets fun ho => ?_
    subst ho
    have hF := hG10
    dsimp only at hF
    obtain rfl := Option.some.inj hF
    refine r_block <| r_then <| c_ret hf (res_tmp Try.results84 hf rfl) ?_
    exact ⟨_, rfl, hw.below, rfl⟩
  rintro s11 a w hs ⟨ρ, hw, hf⟩
  subst hs
  have hF := hG10
  dsimp only at hF
  refine x_block <| n_then <| c_seq <| c_region ?_
  refine s_ hf (r_assign hf rfl) fun a hf => ?_
  refine c_nt <| c_retc ?_
  obtain rfl := Option.some.inj hF
  refine c_ret hf (res_tmp Try.results84 hf rfl) ?_
  exact ⟨_, rfl, hw.below, rfl⟩
/-! f114 -/
noncomputable def spec_l01Mod (a0 : Int) (a1 : Int) : Option Int :=
  if a0 ≠ 0 then (some ((w64 ((a1.tmod a0) + a0)).tmod a0)) else none
theorem spec_l01Mod_ok {w0 : World} {a0 : Int} {a1 : Int}   {r : Int} (hF : spec_l01Mod a0 a1 = some r) :
    Calls Try.prog 114 [vI a0, vI a1].toArray w0 fun e w => ∃ v, e = .returned v ∧ Below w0.heap.size w0 w ∧ .int .i64 r = v := by
  refine calls_of (k := 12) Try.func114 rfl rfl (Nat.le_of_ble_eq_true rfl) fun a hf => ?_
  replace hf : Fr 12 a [(0, vI a0), (1, vI a1)] := hf
  refine c_start fun w ρ hw => ?_
  unfold spec_l01Mod at hF
  refine c_seq <| c_region ?_
  refine s_ hf (r_assign hf rfl) fun a hf => ?_
  refine c_nt <| c_seq <| c_region ?_
  refine s_ hf (r_move hf rfl) fun a hf => ?_
  refine s_ hf (r_move hf rfl) fun a hf => ?_
  obtain ⟨hc1, hF⟩ := of_guard hF
  refine s_ hf (r_rem hf rfl rfl hc1) fun a hf => ?_
  refine s_ hf (r_move hf rfl) fun a hf => ?_
  refine s_ hf (r_add hf rfl rfl) fun a hf => ?_
  refine s_ hf (r_move hf rfl) fun a hf => ?_
  refine s_ hf (r_rem hf rfl rfl hc1) fun a hf => ?_
  refine s_ hf (r_assign hf rfl) fun a hf => ?_
  refine c_nt <| c_retc ?_
  obtain rfl := Option.some.inj hF
  refine c_ret hf (res_tmp Try.results114 hf rfl) ?_
  exact ⟨_, rfl, hw.below, rfl⟩
/-! f110 -/
noncomputable def impl_inverse_l1 (a0 : Int) (a1 : Int) (s2 : Int) : Option (LR Int Int) :=
  if a0 ≠ 0 then (if (decide (((w64 (s2 * a1)).tmod a0) = 1)) = true then (some (.ret s2)) else (some (.next (w64 (s2 + 1))))) else none
noncomputable def impl_inverse (a0 : Int) (a1 : Int) : Option Int :=
  (iter (fun s => impl_inverse_l1 a0 a1 s) 1).bind fun o => match o with | .stop _ => (none) | .ret r => some r | .next _ => none
theorem impl_inverse_ok {w0 : World} {a0 : Int} {a1 : Int}   {r : Int} (hF : impl_inverse a0 a1 = some r) :
    Calls Try.prog 110 [vI a0, vI a1].toArray w0 fun e w => ∃ v, e = .returned v ∧ Below w0.heap.size w0 w ∧ .int .i64 r = v := by
  refine calls_of (k := 15) Try.func110 rfl rfl (Nat.le_of_ble_eq_true rfl) fun a hf => ?_
  replace hf : Fr 15 a [(0, vI a0), (1, vI a1)] := hf
  refine c_start fun w ρ hw => ?_
  unfold impl_inverse at hF
  refine c_seq <| c_region ?_
  refine s_ hf (r_assign hf rfl) fun a hf => ?_
  refine c_nt <| c_seq <| c_region ?_
  refine s_ hf (r_assign hf rfl) fun a hf => ?_
  refine c_nt ?_
  obtain ⟨ol1, ho1, hG1⟩ := of_bind hF
  clear hF
  refine c_block (c_loop (id := 0) (fun s => impl_inverse_l1 a0 a1 s) (fun (s2 : Int) a w => ∃ ρ, Wd w0 ρ w ∧ Fr 15 a [(0, vI a0), (1, vI a1), (5, vI s2)]) (fun (s2 : Int) a w => ∃ ρ, Wd w0 ρ w ∧ Fr 15 a []) ho1 ⟨_, hw, hf.sub ⟨rfl, rfl, rfl, trivial⟩⟩ ?_ ?_)
  · rintro s2 lr a w ⟨ρ, hw, hf⟩ hF
    replace hF : impl_inverse_l1 a0 a1 s2 = some lr := hF
    unfold impl_inverse_l1 at hF
    refine c_seq <| c_block <| c_seq <| c_region ?_
    refine s_ hf (r_move hf rfl) fun a hf => ?_
    refine s_ hf (r_move hf rfl) fun a hf => ?_
    refine s_ hf (r_mul hf rfl rfl) fun a hf => ?_
    refine s_ hf (r_move hf rfl) fun a hf => ?_
    obtain ⟨hc3, hF⟩ := of_guard hF
    refine s_ hf (r_rem hf rfl rfl hc3) fun a hf => ?_
    refine s_ hf (r_eql hf rfl rfl) fun a hf => ?_
    refine c_nt ?_
    rcases of_ite hF with ⟨hb4, hF⟩ | ⟨hb4, hF⟩
    rotate_left
    · refine c_iff hf rfl hb4 <| c_skip <| n_block <| n_then <| c_region ?_
      refine s_ hf (r_move hf rfl) fun a hf => ?_
      refine s_ hf (r_add hf rfl rfl) fun a hf => ?_
      refine s_ hf (r_assign hf rfl) fun a hf => ?_
      refine c_nil ?_
      obtain rfl := Option.some.inj hF
      exact Rnd.goes ⟨_, hw, hf.sub ⟨rfl, rfl, rfl, trivial⟩⟩
    refine c_ift hf rfl hb4 <| c_seq <| c_region ?_
    refine s_ hf (r_move hf rfl) fun a hf => ?_
    refine s_ hf (r_assign hf rfl) fun a hf => ?_
    refine c_nt <| c_retc ?_
    obtain rfl := Option.some.inj hF
    refine r_block <| r_then ?_
    refine Rnd.rets fun ho => ?_
    subst ho
    have hF := hG1
    dsimp only at hF
    obtain rfl := Option.some.inj hF
    refine r_block <| c_ret hf (res_tmp Try.results110 hf rfl) ?_
    exact ⟨_, rfl, hw.below, rfl⟩
  rintro s a w hs _
  subst hs
  cases hG1
/-! f113 -/
noncomputable def spec_l01Inverse_l1 (a0 : Int) (a1 : Int) (s2 : Int) : Option (LR Int Int) :=
  if (decide (s2 < a0)) = true then ((spec_l01Mod a0 a1).bind fun x4 => if a0 ≠ 0 then (if (decide (((w64 (s2 * x4)).tmod a0) = 1)) = true then (some (.ret s2)) else (some (.next (w64 (s2 + 1))))) else none) else (some (.stop s2))
noncomputable def spec_l01Inverse (a0 : Int) (a1 : Int) : Option Int :=
  (iter (fun s => spec_l01Inverse_l1 a0 a1 s) 1).bind fun o => match o with | .stop s2 => (some (0)) | .ret r => some r | .next _ => none
theorem spec_l01Inverse_ok {w0 : World} {a0 : Int} {a1 : Int}   {r : Int} (hF : spec_l01Inverse a0 a1 = some r) :
    Calls Try.prog 113 [vI a0, vI a1].toArray w0 fun e w => ∃ v, e = .returned v ∧ Below w0.heap.size w0 w ∧ .int .i64 r = v := by
  refine calls_of (k := 20) Try.func113 rfl rfl (Nat.le_of_ble_eq_true rfl) fun a hf => ?_
  replace hf : Fr 20 a [(0, vI a0), (1, vI a1)] := hf
  refine c_start fun w ρ hw => ?_
  unfold spec_l01Inverse at hF
  refine c_seq <| c_region ?_
  refine s_ hf (r_assign hf rfl) fun a hf => ?_
  refine c_nt <| c_seq <| c_seq <| c_region ?_
  refine s_ hf (r_assign hf rfl) fun a hf => ?_
  refine c_nt ?_
  obtain ⟨ol1, ho1, hG1⟩ := of_bind hF
  clear hF
  refine c_block (c_loop (id := 0) (fun s => spec_l01Inverse_l1 a0 a1 s) (fun (s2 : Int) a w => ∃ ρ, Wd w0 ρ w ∧ Fr 20 a [(0, vI a0), (1, vI a1), (5, vI s2)]) (fun (s2 : Int) a w => ∃ ρ, Wd w0 ρ w ∧ Fr 20 a []) ho1 ⟨_, hw, hf.sub ⟨rfl, rfl, rfl, trivial⟩⟩ ?_ ?_)
  · rintro s2 lr a w ⟨ρ, hw, hf⟩ hF
    replace hF : spec_l01Inverse_l1 a0 a1 s2 = some lr := hF
    unfold spec_l01Inverse_l1 at hF
    refine c_seq <| c_seq <| c_region ?_
    refine s_ hf (r_move hf rfl) fun a hf => ?_
    refine s_ hf (r_move hf rfl) fun a hf => ?_
    refine s_ hf (r_lss hf rfl rfl) fun a hf => ?_
    refine c_nt ?_
    rcases of_ite hF with ⟨hb3, hF⟩ | ⟨hb3, hF⟩
    rotate_left
    · refine c_iff hf rfl hb3 <| c_exit <| x_then ?_
      obtain rfl := Option.some.inj hF
      exact Rnd.stops ⟨_, hw, hf.sub trivial⟩
    refine c_ift hf rfl hb3 <| c_skip <| n_then <| c_seq <| c_block <| c_seq <| c_region ?_
    refine s_ hf (r_move hf rfl) fun a hf => ?_
    refine s_ hf (r_move hf rfl) fun a hf => ?_
    refine s_ hf (r_move hf rfl) fun a hf => ?_
    obtain ⟨x4, hx5, hF⟩ := of_bind hF
    refine st_fn 1 hw hf rfl rfl (by decide) (r_fn en114 hf rfl) (spec_l01Mod_ok  hx5) fun a v w ρ hf hw hE hN hΦ => ?_
    obtain rfl := hΦ
    refine s_ hf (r_mul hf rfl rfl) fun a hf => ?_
    refine s_ hf (r_move hf rfl) fun a hf => ?_
    obtain ⟨hc6, hF⟩ := of_guard hF
    refine s_ hf (r_rem hf rfl rfl hc6) fun a hf => ?_
    refine s_ hf (r_eql hf rfl rfl) fun a hf => ?_
    refine c_nt ?_
    rcases of_ite hF with ⟨hb7, hF⟩ | ⟨hb7, hF⟩
    rotate_left
    · refine c_iff hf rfl hb7 <| c_skip <| n_block <| n_then <| c_region ?_
      refine s_ hf (r_move hf rfl) fun a hf => ?_
      refine s_ hf (r_add hf rfl rfl) fun a hf => ?_
      refine s_ hf (r_assign hf rfl) fun a hf => ?_
      refine c_nil ?_
      obtain rfl := Option.some.inj hF
      exact Rnd.goes ⟨_, hw, hf.sub ⟨rfl, rfl, rfl, trivial⟩⟩
    refine c_ift hf rfl hb7 <| c_seq <| c_region ?_
    refine s_ hf (r_move hf rfl) fun a hf => ?_
    refine s_ hf (r_assign hf rfl) fun a hf => ?_
    refine c_nt <| c_retc ?_
    obtain rfl := Option.some.inj hF
    refine r_block <| r_then ?_
    refine Rnd.rets fun ho => ?_
    subst ho
    have hF := hG1
    dsimp only at hF
    obtain rfl := Option.some.inj hF
    refine r_block <| r_then <| c_ret hf (res_tmp Try.results113 hf rfl) ?_
    exact ⟨_, rfl, hw.below, rfl⟩
  rintro s2 a w hs ⟨ρ, hw, hf⟩
  subst hs
  have hF := hG1
  dsimp only at hF
  refine x_block <| n_then <| c_seq <| c_region ?_
  refine s_ hf (r_assign hf rfl) fun a hf => ?_
  refine c_nt <| c_retc ?_
  obtain rfl := Option.some.inj hF
  refine c_ret hf (res_tmp Try.results113 hf rfl) ?_
  exact ⟨_, rfl, hw.below, rfl⟩
/-! f111 -/
noncomputable def slices_Clone_111 (a0 : List Int) : Option (List Int) :=
  if (([] : List Int).length + a0.length) * 8 ≤ 140737488355328 then (some ((([] : List Int) ++ a0))) else none
theorem slices_Clone_111_ok {w0 : World} {a0 : List Int} {va0 : Value} (h0 : Ro (kf fI64) w0 va0 a0) {r : List Int} (hF : slices_Clone_111 a0 = some r) :
    Calls Try.prog 111 [va0].toArray w0 fun e w => ∃ v, e = .returned v ∧ Below w0.heap.size w0 w ∧ ∃ u0, u0 = v ∧ Fresh (kf fI64) 2 w0 w u0 r := by
  refine calls_of (k := 8) Try.func111 rfl rfl (Nat.le_of_ble_eq_true rfl) fun a hf => ?_
  replace hf : Fr 8 a [(0, va0)] := hf
  refine c_start fun w ρ hw => ?_
  unfold slices_Clone_111 at hF
  refine c_seq <| c_region ?_
  have o1 : Ow (kf fI64) 2 ρ w w0.heap.size 1 (.slice none 0 0) [] := Ow.nil _ _ _ _ _ _
  refine s_ hf (r_assign hf rfl) fun a hf => ?_
  refine c_nt <| c_seq <| c_seq <| c_region ?_
  refine s_ hf (r_move hf rfl) fun a hf => ?_
  rcases Ro.nil_or (h0.now hw) with hn1 | hn1
  · replace hF := (show (some (([] : List Int))) = (if (([] : List Int).length + a0.length) * 8 ≤ 140737488355328 then (some ((([] : List Int) ++ a0))) else none) from by simp [hn1.2]).trans hF
    refine s_ hf (r_isnil hf rfl hn1.1 rfl Try.underlying36) fun a hf => ?_
    refine c_nt <| c_true hf rfl <| c_seq <| c_region ?_
    have o2 : Ow (kf fI64) 2 ρ w w0.heap.size 2 (.slice none 0 0) [] := Ow.nil _ _ _ _ _ _
    refine s_ hf (r_assign hf rfl) fun a hf => ?_
    refine c_nt <| c_retc ?_
    obtain rfl := Option.some.inj hF
    refine r_then <| c_ret hf (res_tmp Try.results111 hf rfl) ?_
    exact ⟨_, rfl, hw.below, ⟨_, rfl, o2.out⟩⟩
  · refine s_ hf (r_nonil hf rfl hn1 rfl Try.underlying36) fun a hf => ?_
    refine c_nt <| c_false hf rfl <| c_skip <| n_then <| c_seq <| c_region ?_
    refine sx_ hf (r_lit (d := fI64) (xs := ([] : List Int)) (vs := []) 3 Try.underlying36 el2 (Nat.le_of_ble_eq_true rfl) (Nat.le_of_ble_eq_true rfl) hw hf rfl rfl rfl) fun a v3 w hf hΦ => ?_
    obtain ⟨ρ, hw, hE, o3⟩ := hΦ
    replace o1 := o1.ext hE
    refine s_ hf (r_move hf rfl) fun a hf => ?_
    obtain ⟨hc2, hF⟩ := of_guard hF
    refine sx_ hf (r_append Try.underlying36 el2 hw (by decide) o3 (h0.now hw) hc2 hf rfl rfl) fun a va3 w hf hΦ => ?_
    obtain ⟨ρ, hw, hA, o3⟩ := hΦ
    replace o1 := o1.adv hA (by decide)
    refine s_ hf (r_assign hf rfl) fun a hf => ?_
    refine c_nt <| c_retc ?_
    obtain rfl := Option.some.inj hF
    refine c_ret hf (res_tmp Try.results111 hf rfl) ?_
    exact ⟨_, rfl, hw.below, ⟨_, rfl, o3.out⟩⟩
/-! f164 -/
noncomputable def impl_parted_l1 (a0 : List Int) (a1 : Int) (s2 : Int) (s3 : List (List Int)) : Option (LR (Int × (List (List Int))) (List (List Int))) :=
  if (decide (s2 < (a0.length : Int))) = true then (if 0 ≤ s2 ∧ s2 ≤ w64 (s2 + a1) ∧ w64 (s2 + a1) ≤ (a0.length : Int) then ((slices_Clone_111 ((a0.take (w64 (s2 + a1)).toNat).drop s2.toNat)).bind fun x8 => if (s3.length + ([x8]).length) * 24 ≤ 140737488355328 then (some (.next (w64 (s2 + a1), (s3 ++ [x8])))) else none) else none) else (some (.stop (s2, s3)))
noncomputable def impl_parted (a0 : List Int) (a1 : Int) : Option (List (List Int)) :=
  (iter (fun s => impl_parted_l1 a0 a1 s.1 s.2) (0, ([] : List (List Int)))).bind fun o => match o with | .stop (s2, s3) => (some (s3)) | .ret r => some r | .next _ => none
theorem impl_parted_ok {w0 : World} {a0 : List Int} {a1 : Int} {va0 : Value} (h0 : Ro (kf fI64) w0 va0 a0) {r : List (List Int)} (hF : impl_parted a0 a1 = some r) :
    Calls Try.prog 164 [va0, vI a1].toArray w0 fun e w => ∃ v, e = .returned v ∧ Below w0.heap.size w0 w ∧ ∃ u0, u0 = v ∧ Fresh (Kd.slice 2 (kf fI64)) 36 w0 w u0 r := by
  refine calls_of (k := 26) Try.func164 rfl rfl (Nat.le_of_ble_eq_true rfl) fun a hf => ?_
  replace hf : Fr 26 a [(0, va0), (1, vI a1)] := hf
  refine c_start fun w ρ hw => ?_
  unfold impl_parted at hF
  refine c_seq <| c_region ?_
  have o1 : Ow (Kd.slice 2 (kf fI64)) 36 ρ w w0.heap.size 1 (.slice none 0 0) [] := Ow.nil _ _ _ _ _ _
  refine s_ hf (r_assign hf rfl) fun a hf => ?_
  refine c_nt <| c_seq <| c_region ?_
  refine sx_ hf (r_lit_none (d := (Kd.slice 2 (kf fI64))) 2 Try.underlying24 el36 hw) fun a v2 w hf hΦ => ?_
  obtain ⟨ρ, hw, hE, o2⟩ := hΦ
  replace o1 := o1.ext hE
  refine s_ hf (r_assign hf rfl) fun a hf => ?_
  refine c_nt <| c_seq <| c_seq <| c_region ?_
  refine s_ hf (r_assign hf rfl) fun a hf => ?_
  refine c_nt ?_
  obtain ⟨ol1, ho1, hG1⟩ := of_bind hF
  clear hF
  refine c_block (c_loop (id := 0) (fun s => impl_parted_l1 a0 a1 s.1 s.2) (fun (s : Int × (List (List Int))) a w => match s with | (s2, s3) => ∃ ρ vv4, Wd w0 ρ w ∧ Fr 26 a [(0, va0), (1, vI a1), (5, vv4), (6, vI s2)] ∧ O36 ρ w w0 2 vv4 s3) (fun (s : Int × (List (List Int))) a w => match s with | (s2, s3) => ∃ ρ vv4, Wd w0 ρ w ∧ Fr 26 a [(5, vv4)] ∧ O36 ρ w w0 2 vv4 s3) ho1 ⟨_, _, hw, hf.sub ⟨rfl, rfl, rfl, rfl, trivial⟩, o2⟩ ?_ ?_)
  · rintro ⟨s2, s3⟩ lr a w ⟨ρ, vv4, hw, hf, o2⟩ hF
    replace hF : impl_parted_l1 a0 a1 s2 s3 = some lr := hF
    unfold impl_parted_l1 at hF
    refine c_seq <| c_seq <| c_region ?_
    refine s_ hf (r_move hf rfl) fun a hf => ?_
    refine s_ hf (r_move hf rfl) fun a hf => ?_
    refine s_ hf (r_len Try.underlying36 (h0.now hw) hf rfl) fun a hf => ?_
    refine s_ hf (r_lss hf rfl rfl) fun a hf => ?_
    refine c_nt ?_
    rcases of_ite hF with ⟨hb5, hF⟩ | ⟨hb5, hF⟩
    rotate_left
    · refine c_iff hf rfl hb5 <| c_exit <| x_then ?_
      obtain rfl := Option.some.inj hF
      exact Rnd.stops ⟨_, _, hw, hf.sub ⟨rfl, trivial⟩, o2⟩
    refine c_ift hf rfl hb5 <| c_skip <| n_then <| c_seq <| c_block <| c_region ?_
    refine s_ hf (r_move hf rfl) fun a hf => ?_
    refine s_ hf (r_move hf rfl) fun a hf => ?_
    refine s_ hf (r_move hf rfl) fun a hf => ?_
    refine s_ hf (r_move hf rfl) fun a hf => ?_
    refine s_ hf (r_move hf rfl) fun a hf => ?_
    refine s_ hf (r_add hf rfl rfl) fun a hf => ?_
    obtain ⟨hc6, hF⟩ := of_guard hF
    have hq7 : Ro (kf fI64) w0 (cutV va0 s2.toNat (w64 (s2 + a1)).toNat 1) ((a0.take (w64 (s2 + a1)).toNat).drop s2.toNat) := ro_cutV h0 hc6.1 hc6.2.1 hc6.2.2
    refine s_ hf (r_cut_v (lo := s2) (hi := w64 (s2 + a1)) Try.underlying36 sz2 rfl (h0.now hw) hf rfl (.inr ⟨_, rfl, rfl⟩) (.inr ⟨_, rfl, rfl⟩) hc6.1 hc6.2.1 hc6.2.2) fun a hf => ?_
    obtain ⟨x8, hx9, hF⟩ := of_bind hF
    refine st_fn 3 hw hf rfl rfl (by decide) (r_fn en111 hf rfl) (slices_Clone_111_ok (hq7.now hw) hx9) fun a v w ρ hf hw hE hN hΦ => ?_
    obtain ⟨u10, rfl, hr11⟩ := hΦ
    replace o2 := o2.ext hE
    have o3 := hN hr11
    refine sx_ hf (r_lit_row 4 Try.underlying24 el36 hw (by decide) hf rfl o3) fun a v4 w hf hΦ => ?_
    obtain ⟨ρ, hw, hT, hB, o4⟩ := hΦ
    replace o2 := o2.tr (hT 2 (by decide))
    obtain ⟨hc12, hF⟩ := of_guard hF
    refine sx_ hf (r_append_own Try.underlying24 el36 hw (by decide) (by decide) (by decide) o2 o4 hc12 hf rfl rfl) fun a va13 w hf hΦ => ?_
    obtain ⟨ρ, hw, hT, o2⟩ := hΦ
    refine s_ hf (r_assign hf rfl) fun a hf => ?_
    refine c_nil <| n_block <| n_then <| c_region ?_
    refine s_ hf (r_move hf rfl) fun a hf => ?_
    refine s_ hf (r_move hf rfl) fun a hf => ?_
    refine s_ hf (r_add hf rfl rfl) fun a hf => ?_
    refine s_ hf (r_assign hf rfl) fun a hf => ?_
    refine c_nil ?_
    obtain rfl := Option.some.inj hF
    exact Rnd.goes ⟨_, _, hw, hf.sub ⟨rfl, rfl, rfl, rfl, trivial⟩, o2⟩
  rintro ⟨s2, s3⟩ a w hs ⟨ρ, vv4, hw, hf, o2⟩
  subst hs
  have hF := hG1
  dsimp only at hF
  refine x_block <| n_then <| c_seq <| c_region ?_
  refine s_ hf (r_move hf rfl) fun a hf => ?_
  refine s_ hf (r_assign hf rfl) fun a hf => ?_
  refine c_nt <| c_retc ?_
  obtain rfl := Option.some.inj hF
  refine c_ret hf (res_tmp Try.results164 hf rfl) ?_
  exact ⟨_, rfl, hw.below, ⟨_, rfl, o2.out⟩⟩
/-! f131 -/
noncomputable def impl_matrixOf_l1 (a0 : Form) (a1 : Int) (a2 : Int) (s2 : Int) (s3 : List Int) : Option (LR (Int × (List Int)) (List (List Int))) :=
  if (decide (s2 < (w64 (a1 * a2)))) = true then (if 0 ≤ s2 ∧ s2 < 9 then (if (s3.length + ([((vg 0 a0 s2).toNat : Int)]).length) * 8 ≤ 140737488355328 then (some (.next (w64 (s2 + 1), (s3 ++ [((vg 0 a0 s2).toNat : Int)])))) else none) else none) else (some (.stop (s2, s3)))
noncomputable def impl_matrixOf (a0 : Form) (a1 : Int) (a2 : Int) : Option (List (List Int)) :=
  (iter (fun s => impl_matrixOf_l1 a0 a1 a2 s.1 s.2) (0, ([] : List Int))).bind fun o => match o with | .stop (s2, s3) => ((impl_parted s3 a2).bind fun x9 => some (x9)) | .ret r => some r | .next _ => none
theorem impl_matrixOf_ok {w0 : World} {a0 : Form} {a1 : Int} {a2 : Int}   {r : List (List Int)} (hF : impl_matrixOf a0 a1 a2 = some r) :
    Calls Try.prog 131 [.agg (cForm.enc a0).toArray, vI a1, vI a2].toArray w0 fun e w => ∃ v, e = .returned v ∧ Below w0.heap.size w0 w ∧ ∃ u0, u0 = v ∧ Fresh (Kd.slice 2 (kf fI64)) 36 w0 w u0 r := by
  refine calls_of (k := 27) Try.func131 rfl rfl (Nat.le_of_ble_eq_true rfl) fun a hf => ?_
  replace hf : Fr 27 a [(0, .agg (cForm.enc a0).toArray), (1, vI a1), (2, vI a2)] := hf
  refine c_start fun w ρ hw => ?_
  unfold impl_matrixOf at hF
  refine c_seq <| c_region ?_
  refine sx_ hf (r_box (cs := cForm.enc a0) 1 hw hf rfl rfl) fun a v w hf hΦ => ?_
  obtain ⟨g1, ρ, rfl, hw, hE, o1⟩ := hΦ
  have o2 : Ow (Kd.slice 2 (kf fI64)) 36 ρ w w0.heap.size 2 (.slice none 0 0) [] := Ow.nil _ _ _ _ _ _
  refine s_ hf (r_assign hf rfl) fun a hf => ?_
  refine c_nt <| c_seq <| c_region ?_
  refine sx_ hf (r_lit (d := fI64) (xs := ([] : List Int)) (vs := []) 3 Try.underlying36 el2 (Nat.le_of_ble_eq_true rfl) (Nat.le_of_ble_eq_true rfl) hw hf rfl rfl rfl) fun a v3 w hf hΦ => ?_
  obtain ⟨ρ, hw, hE, o3⟩ := hΦ
  replace o1 := o1.ext hE
  replace o2 := o2.ext hE
  refine s_ hf (r_assign hf rfl) fun a hf => ?_
  refine c_nt <| c_seq <| c_seq <| c_region ?_
  refine s_ hf (r_move hf rfl) fun a hf => ?_
  refine s_ hf (r_move hf rfl) fun a hf => ?_
  refine s_ hf (r_mul hf rfl rfl) fun a hf => ?_
  refine s_ hf (r_move hf rfl) fun a hf => ?_
  refine c_nt ?_
  obtain ⟨ol1, ho1, hG1⟩ := of_bind hF
  clear hF
  refine c_block (c_loop (id := 0) (fun s => impl_matrixOf_l1 a0 a1 a2 s.1 s.2) (fun (s : Int × (List Int)) a w => match s with | (s2, s3) => ∃ ρ vv4, Wd w0 ρ w ∧ Fr 27 a [(2, vI a2), (3, .pointer (some ((⟨g1, 0, none⟩ : Addr).add 0))), (7, vv4), (12, vI (w64 (a1 * a2))), (13, vI s2)] ∧ Va ρ w 1 g1 80 (cForm.enc a0) ∧ O2 ρ w w0 3 vv4 s3) (fun (s : Int × (List Int)) a w => match s with | (s2, s3) => ∃ ρ vv4, Wd w0 ρ w ∧ Fr 27 a [(2, vI a2), (7, vv4)] ∧ O2 ρ w w0 3 vv4 s3) ho1 ⟨_, _, hw, hf.sub ⟨rfl, rfl, rfl, rfl, rfl, trivial⟩, o1, o3⟩ ?_ ?_)
  · rintro ⟨s2, s3⟩ lr a w ⟨ρ, vv4, hw, hf, o1, o3⟩ hF
    replace hF : impl_matrixOf_l1 a0 a1 a2 s2 s3 = some lr := hF
    unfold impl_matrixOf_l1 at hF
    refine c_seq <| c_region ?_
    refine s_ hf (r_lss hf rfl rfl) fun a hf => ?_
    refine c_nt <| c_seq ?_
    rcases of_ite hF with ⟨hb5, hF⟩ | ⟨hb5, hF⟩
    rotate_left
    · refine c_iff hf rfl hb5 <| c_exit <| x_then ?_
      obtain rfl := Option.some.inj hF
      exact Rnd.stops ⟨_, _, hw, hf.sub ⟨rfl, rfl, trivial⟩, o3⟩
    refine c_ift hf rfl hb5 <| c_skip <| n_then <| c_seq <| c_block <| c_seq <| c_region ?_
    refine s_ hf (r_move hf rfl) fun a hf => ?_
    refine s_ hf (r_assign hf rfl) fun a hf => ?_
    refine c_nt <| c_region ?_
    refine s_ hf (r_move hf rfl) fun a hf => ?_
    refine s_ hf (r_move hf rfl) fun a hf => ?_
    obtain ⟨hc6, hF⟩ := of_guard hF
    refine s_ hf (r_indexAddr_arr Try.underlying80 sz5 hf rfl rfl hc6.1 hc6.2) fun a hf => ?_
    refine s_ hf (r_load_cell ty5 hf rfl (o1.cl.lens (Lens.vec 0 fU8 s2 hc6.1 hc6.2))) fun a hf => ?_
    refine s_ hf (r_conv_u8_i64 Try.underlying5 Try.underlying2 hf rfl) fun a hf => ?_
    refine sx_ hf (r_lit (d := fI64) (xs := ([((vg 0 a0 s2).toNat : Int)] : List Int)) (vs := [vI ((vg 0 a0 s2).toNat : Int)]) 4 Try.underlying36 el2 (Nat.le_of_ble_eq_true rfl) (Nat.le_of_ble_eq_true rfl) hw hf rfl rfl rfl) fun a v4 w hf hΦ => ?_
    obtain ⟨ρ, hw, hE, o4⟩ := hΦ
    replace o1 := o1.ext hE
    replace o3 := o3.ext hE
    obtain ⟨hc7, hF⟩ := of_guard hF
    refine sx_ hf (r_append Try.underlying36 el2 hw (by decide) o3 o4.ro hc7 hf rfl rfl) fun a va8 w hf hΦ => ?_
    obtain ⟨ρ, hw, hA, o3⟩ := hΦ
    replace o1 := o1.adv hA (by decide)
    replace o4 := o4.adv hA (by decide)
    refine s_ hf (r_assign hf rfl) fun a hf => ?_
    refine c_nil <| n_block <| n_then <| c_region ?_
    refine s_ hf (r_add hf rfl rfl) fun a hf => ?_
    refine s_ hf (r_move hf rfl) fun a hf => ?_
    refine c_nil ?_
    obtain rfl := Option.some.inj hF
    exact Rnd.goes ⟨_, _, hw, hf.sub ⟨rfl, rfl, rfl, rfl, rfl, trivial⟩, o1, o3⟩
  rintro ⟨s2, s3⟩ a w hs ⟨ρ, vv4, hw, hf, o3⟩
  subst hs
  have hF := hG1
  dsimp only at hF
  refine x_block <| n_then <| c_seq <| c_region ?_
  refine s_ hf (r_move hf rfl) fun a hf => ?_
  refine s_ hf (r_move hf rfl) fun a hf => ?_
  obtain ⟨x9, hx10, hF⟩ := of_bind hF
  refine st_fn 5 hw hf rfl rfl (by decide) (r_fn en164 hf rfl) (impl_parted_ok o3.ro hx10) fun a v w ρ hf hw hE hN hΦ => ?_
  obtain ⟨u11, rfl, hr12⟩ := hΦ
  replace o3 := o3.ext hE
  have o5 := hN hr12
  refine s_ hf (r_assign hf rfl) fun a hf => ?_
  refine c_nt <| c_retc ?_
  obtain rfl := Option.some.inj hF
  refine c_ret hf (res_tmp Try.results131 hf rfl) ?_
  exact ⟨_, rfl, hw.below, ⟨_, rfl, o5.out⟩⟩
/-! f149 -/
noncomputable def impl_rank_1 (a0 : List Int) (c1 : Int) : Option Bool :=
  if 0 ≤ c1 ∧ c1 < (a0.length : Int) then (some (decide ((gl 0 a0 c1) ≠ 0))) else none
theorem impl_rank_1_ok {w0 : World} {a0 : List Int} {c1 : Int} {va0 : Value} {gc1 : Nat} (h0 : Ro (kf fI64) w0 va0 a0) (hc1 : Cl w0 ⟨gc1, 0, none⟩ 0 [vI c1]) {r : Bool} (hF : impl_rank_1 a0 c1 = some r) :
    Calls Try.prog 149 [va0, .pointer (some ((⟨gc1, 0, none⟩ : Addr).add 0))].toArray w0 fun e w => ∃ v, e = .returned v ∧ Below w0.heap.size w0 w ∧ .bool r = v := by
  refine calls_of (k := 9) Try.func149 rfl rfl (Nat.le_of_ble_eq_true rfl) fun a hf => ?_
  replace hf : Fr 9 a [(0, va0), (1, .pointer (some ((⟨gc1, 0, none⟩ : Addr).add 0)))] := hf
  refine c_start fun w ρ hw => ?_
  unfold impl_rank_1 at hF
  refine c_seq <| c_region ?_
  refine s_ hf (r_assign hf rfl) fun a hf => ?_
  refine c_nt <| c_seq <| c_region ?_
  refine s_ hf (r_move hf rfl) fun a hf => ?_
  refine s_ hf (r_load_cell ty3 hf rfl (hc1.below hw.below)) fun a hf => ?_
  obtain ⟨hc1, hF⟩ := of_guard hF
  obtain ⟨ad2, c2, he2, hl2⟩ := Ro.el fI64 h0 0 hc1.1 hc1.2
  refine s_ hf (r_idx Try.underlying36 sz2 hf rfl ⟨_, he2⟩ rfl hc1.1 hc1.2) fun a hf => ?_
  refine s_ hf (r_load_cell ty2 hf rfl (hl2.below hw.below)) fun a hf => ?_
  refine s_ hf (r_neq hf rfl rfl) fun a hf => ?_
  refine s_ hf (r_assign hf rfl) fun a hf => ?_
  refine c_nt <| c_retc ?_
  obtain rfl := Option.some.inj hF
  refine c_ret hf (res_tmp Try.results149 hf rfl) ?_
  exact ⟨_, rfl, hw.below, rfl⟩
/-! f108s149 -/
noncomputable def slices_IndexFunc_108_f149_l1 (a0 : List (List Int)) (c1_0 : Int) (s2 : Int) : Option (LR Int Int) :=
  if (decide (s2 < (a0.length : Int))) = true then (if 0 ≤ s2 ∧ s2 < (a0.length : Int) then ((impl_rank_1 (gl [] a0 s2) c1_0).bind fun x6 => if x6 = true then (some (.ret s2)) else (some (.next (w64 (s2 + 1))))) else none) else (some (.stop s2))
noncomputable def slices_IndexFunc_108_f149 (a0 : List (List Int)) (c1_0 : Int) : Option Int :=
  (iter (fun s => slices_IndexFunc_108_f149_l1 a0 c1_0 s) 0).bind fun o => match o with | .stop s2 => (some ((-1))) | .ret r => some r | .next _ => none
theorem slices_IndexFunc_108_f149_ok {w0 : World} {a0 : List (List Int)} {c1_0 : Int} {va0 : Value} {gc1_0 : Nat} (h0 : Ro (Kd.slice 2 (kf fI64)) w0 va0 a0) (hc1_0 : Cl w0 ⟨gc1_0, 0, none⟩ 0 [vI c1_0]) {r : Int} (hF : slices_IndexFunc_108_f149 a0 c1_0 = some r) :
    Calls Try.prog 108 [va0, .func (.func 149) #[] #[.pointer (some ((⟨gc1_0, 0, none⟩ : Addr).add 0))]].toArray w0 fun e w => ∃ v, e = .returned v ∧ Below w0.heap.size w0 w ∧ .int .i64 r = v := by
  refine calls_of (k := 19) Try.func108 rfl rfl (Nat.le_of_ble_eq_true rfl) fun a hf => ?_
  replace hf : Fr 19 a [(0, va0), (1, .func (.func 149) #[] #[.pointer (some ((⟨gc1_0, 0, none⟩ : Addr).add 0))])] := hf
  refine c_start fun w ρ hw => ?_
  unfold slices_IndexFunc_108_f149 at hF
  refine c_seq <| c_region ?_
  refine s_ hf (r_assign hf rfl) fun a hf => ?_
  refine c_nt <| c_seq <| c_seq <| c_region ?_
  refine s_ hf (r_move hf rfl) fun a hf => ?_
  refine s_ hf (r_len Try.underlying24 (h0.now hw) hf rfl) fun a hf => ?_
  refine s_ hf (r_move hf rfl) fun a hf => ?_
  refine c_nt ?_
  obtain ⟨ol1, ho1, hG1⟩ := of_bind hF
  clear hF
  refine c_block (c_loop (id := 0) (fun s => slices_IndexFunc_108_f149_l1 a0 c1_0 s) (fun (s2 : Int) a w => ∃ ρ, Wd w0 ρ w ∧ Fr 19 a [(0, va0), (1, .func (.func 149) #[] #[.pointer (some ((⟨gc1_0, 0, none⟩ : Addr).add 0))]), (7, vI (a0.length : Int)), (8, vI s2)]) (fun (s2 : Int) a w => ∃ ρ, Wd w0 ρ w ∧ Fr 19 a []) ho1 ⟨_, hw, hf.sub ⟨rfl, rfl, rfl, rfl, trivial⟩⟩ ?_ ?_)
  · rintro s2 lr a w ⟨ρ, hw, hf⟩ hF
    replace hF : slices_IndexFunc_108_f149_l1 a0 c1_0 s2 = some lr := hF
    unfold slices_IndexFunc_108_f149_l1 at hF
    refine c_seq <| c_region ?_
    refine s_ hf (r_lss hf rfl rfl) fun a hf => ?_
    refine c_nt <| c_seq ?_
    rcases of_ite hF with ⟨hb3, hF⟩ | ⟨hb3, hF⟩
    rotate_left
    · refine c_iff hf rfl hb3 <| c_exit <| x_then ?_
      obtain rfl := Option.some.inj hF
      exact Rnd.stops ⟨_, hw, hf.sub trivial⟩
    refine c_ift hf rfl hb3 <| c_skip <| n_then <| c_seq <| c_block <| c_seq <| c_region ?_
    refine s_ hf (r_move hf rfl) fun a hf => ?_
    refine s_ hf (r_assign hf rfl) fun a hf => ?_
    refine c_nt <| c_seq <| c_region ?_
    refine s_ hf (r_move hf rfl) fun a hf => ?_
    refine s_ hf (r_move hf rfl) fun a hf => ?_
    refine s_ hf (r_move hf rfl) fun a hf => ?_
    obtain ⟨hc4, hF⟩ := of_guard hF
    obtain ⟨ad5, c5, u5, he5, hl5, ho5⟩ := Ro.el_row h0 hc4.1 hc4.2
    refine s_ hf (r_idx Try.underlying24 sz36 hf rfl ⟨_, he5⟩ rfl hc4.1 hc4.2) fun a hf => ?_
    refine s_ hf (r_load_cell ty36 hf rfl (hl5.below hw.below)) fun a hf => ?_
    obtain ⟨x6, hx7, hF⟩ := of_bind hF
    refine st_fn 1 hw hf rfl rfl (by decide) (r_fnc en149 hf rfl rfl) (impl_rank_1_ok (ho5.now hw) (hc1_0.below hw.below) hx7) fun a v w ρ hf hw hE hN hΦ => ?_
    obtain rfl := hΦ
    refine c_nt ?_
    rcases of_ite hF with ⟨hb8, hF⟩ | ⟨hb8, hF⟩
    rotate_left
    · refine c_iff hf rfl hb8 <| c_skip <| n_block <| n_then <| c_region ?_
      refine s_ hf (r_add hf rfl rfl) fun a hf => ?_
      refine s_ hf (r_move hf rfl) fun a hf => ?_
      refine c_nil ?_
      obtain rfl := Option.some.inj hF
      exact Rnd.goes ⟨_, hw, hf.sub ⟨rfl, rfl, rfl, rfl, trivial⟩⟩
    refine c_ift hf rfl hb8 <| c_seq <| c_region ?_
    refine s_ hf (r_move hf rfl) fun a hf => ?_
    refine s_ hf (r_assign hf rfl) fun a hf => ?_
    refine c_nt <| c_retc ?_
    obtain rfl := Option.some.inj hF
    refine r_block <| r_then ?_
    refine Rnd.rets fun ho => ?_
    subst ho
    have hF := hG1
    dsimp only at hF
    obtain rfl := Option.some.inj hF
    refine r_block <| r_then <| c_ret hf (res_tmp Try.results108 hf rfl) ?_
    exact ⟨_, rfl, hw.below, rfl⟩
  rintro s2 a w hs ⟨ρ, hw, hf⟩
  subst hs
  have hF := hG1
  dsimp only at hF
  refine x_block <| n_then <| c_seq <| c_region ?_
  refine s_ hf (r_assign hf rfl) fun a hf => ?_
  refine c_nt <| c_retc ?_
  obtain rfl := Option.some.inj hF
  refine c_ret hf (res_tmp Try.results108 hf rfl) ?_
  exact ⟨_, rfl, hw.below, rfl⟩
/-! f106 -/
noncomputable def impl_rank_l1 (a1 : List (List Int)) (s2 : Int) (s3 : List Nat) (s4 : List (List Int)) : Option (LR (Int × (List Nat) × (List (List Int))) Int) :=
  if (decide (s2 < (a1.length : Int))) = true then (if 0 ≤ s2 ∧ s2 < (a1.length : Int) then ((slices_Clone_111 (gl [] a1 s2)).bind fun x10 => if (s3.length + 1) * 24 ≤ 140737488355328 then (some (.next (w64 (s2 + 1), (s3 ++ [s4.length]), (s4 ++ [x10])))) else none) else none) else (some (.stop (s2, s3, s4)))
noncomputable def impl_rank_l56 (a0 : Int) (s18 : Int) (s19 : List Nat) (s22 : Int) (x30 : Int) (x44 : Int) (s47 : Int) (s48 : List (List Int)) (s57 : Int) (s58 : List (List Int)) : Option (LR (Int × (List (List Int))) Int) :=
  if (decide (s57 < ((s48.getD (gl 0 ((s19.set s18.toNat (gl 0 s19 (w64 (s18 + x30)))).set (w64 (s18 + x30)).toNat (gl 0 s19 s18)) s47) []).length : Int))) = true then (if 0 ≤ s57 ∧ s57 < ((s58.getD (gl 0 ((s19.set s18.toNat (gl 0 s19 (w64 (s18 + x30)))).set (w64 (s18 + x30)).toNat (gl 0 s19 s18)) s47) []).length : Int) then (if 0 ≤ s57 ∧ s57 < ((s58.getD (gl 0 ((s19.set s18.toNat (gl 0 s19 (w64 (s18 + x30)))).set (w64 (s18 + x30)).toNat (gl 0 s19 s18)) s18) []).length : Int) then (some (.next (w64 (s57 + 1), (s58.set (gl 0 ((s19.set s18.toNat (gl 0 s19 (w64 (s18 + x30)))).set (w64 (s18 + x30)).toNat (gl 0 s19 s18)) s47) ((s58.getD (gl 0 ((s19.set s18.toNat (gl 0 s19 (w64 (s18 + x30)))).set (w64 (s18 + x30)).toNat (gl 0 s19 s18)) s47) []).set s57.toNat ((w64 (((w64 ((gl 0 (s58.getD (gl 0 ((s19.set s18.toNat (gl 0 s19 (w64 (s18 + x30)))).set (w64 (s18 + x30)).toNat (gl 0 s19 s18)) s47) []) s57) - (w64 (((w64 ((gl 0 (s48.getD (gl 0 ((s19.set s18.toNat (gl 0 s19 (w64 (s18 + x30)))).set (w64 (s18 + x30)).toNat (gl 0 s19 s18)) s47) []) s22) * x44)).tmod a0) * (gl 0 (s58.getD (gl 0 ((s19.set s18.toNat (gl 0 s19 (w64 (s18 + x30)))).set (w64 (s18 + x30)).toNat (gl 0 s19 s18)) s18) []) s57))))).tmod a0) + a0)).tmod a0)))))) else none) else none) else (some (.stop (s57, s58)))
noncomputable def impl_rank_l46 (a0 : Int) (s18 : Int) (s19 : List Nat) (s22 : Int) (x30 : Int) (x44 : Int) (s47 : Int) (s48 : List (List Int)) : Option (LR (Int × (List (List Int))) Int) :=
  if (decide (s47 < (((s19.set s18.toNat (gl 0 s19 (w64 (s18 + x30)))).set (w64 (s18 + x30)).toNat (gl 0 s19 s18)).length : Int))) = true then (if 0 ≤ s47 ∧ s47 < (((s19.set s18.toNat (gl 0 s19 (w64 (s18 + x30)))).set (w64 (s18 + x30)).toNat (gl 0 s19 s18)).length : Int) then (if 0 ≤ s22 ∧ s22 < ((s48.getD (gl 0 ((s19.set s18.toNat (gl 0 s19 (w64 (s18 + x30)))).set (w64 (s18 + x30)).toNat (gl 0 s19 s18)) s47) []).length : Int) then (if a0 ≠ 0 then ((iter (fun s => impl_rank_l56 a0 s18 s19 s22 x30 x44 s47 s48 s.1 s.2) (0, s48)).bind fun o => match o with | .stop (s57, s58) => (some (.next (w64 (s47 + 1), s58))) | .ret r => some (.ret r) | .next _ => none) else none) else none) else none) else (some (.stop (s47, s48)))
noncomputable def impl_rank_l17 (a0 : Int) (s18 : Int) (s19 : List Nat) (s20 : List (List Int)) (s22 : Int) : Option (LR (Int × (List Nat) × (List (List Int)) × Int) Int) :=
  (if (decide (s18 < (s19.length : Int))) = true then (if 0 ≤ (0 : Int) ∧ (0 : Int) < (s19.length : Int) then (some (decide (s22 < ((s20.getD (gl 0 s19 (0 : Int)) []).length : Int)))) else none) else (some false)).bind fun (s24 : Bool) => if s24 = true then (if 0 ≤ s18 ∧ s18 ≤ ((gi s19 s20).length : Int) then ((slices_IndexFunc_108_f149 (((gi s19 s20).take ((gi s19 s20).length : Int).toNat).drop s18.toNat) s22).bind fun x30 => if (decide (x30 < 0)) = true then (some (.next (s18, s19, s20, w64 (s22 + 1)))) else (if 0 ≤ w64 (s18 + x30) ∧ w64 (s18 + x30) < (s19.length : Int) then (if 0 ≤ s18 ∧ s18 < (s19.length : Int) then (if 0 ≤ w64 (s18 + x30) ∧ w64 (s18 + x30) < ((s19.set s18.toNat (gl 0 s19 (w64 (s18 + x30)))).length : Int) then (if 0 ≤ s18 ∧ s18 < (((s19.set s18.toNat (gl 0 s19 (w64 (s18 + x30)))).set (w64 (s18 + x30)).toNat (gl 0 s19 s18)).length : Int) then (if 0 ≤ s22 ∧ s22 < ((s20.getD (gl 0 ((s19.set s18.toNat (gl 0 s19 (w64 (s18 + x30)))).set (w64 (s18 + x30)).toNat (gl 0 s19 s18)) s18) []).length : Int) then ((impl_inverse a0 (gl 0 (s20.getD (gl 0 ((s19.set s18.toNat (gl 0 s19 (w64 (s18 + x30)))).set (w64 (s18 + x30)).toNat (gl 0 s19 s18)) s18) []) s22)).bind fun x44 => (iter (fun s => impl_rank_l46 a0 s18 s19 s22 x30 x44 s.1 s.2) (w64 (s18 + 1), s20)).bind fun o => match o with | .stop (s47, s48) => (some (.next (w64 (s18 + 1), ((s19.set s18.toNat (gl 0 s19 (w64 (s18 + x30)))).set (w64 (s18 + x30)).toNat (gl 0 s19 s18)), s48, w64 (s22 + 1)))) | .ret r => some (.ret r) | .next _ => none) else none) else none) else none) else none) else none)) else none) else (some (.stop (s18, s19, s20, s22)))
noncomputable def impl_rank (a0 : Int) (a1 : List (List Int)) : Option Int :=
  (iter (fun s => impl_rank_l1 a1 s.1 s.2.1 s.2.2) (0, ([] : List Nat), ([] : List (List Int)))).bind fun o => match o with | .stop (s2, s3, s4) => ((iter (fun s => impl_rank_l17 a0 s.1 s.2.1 s.2.2.1 s.2.2.2) (0, s3, s4, 0)).bind fun o => match o with | .stop (s18, s19, s20, s22) => (some (s18)) | .ret r => some r | .next _ => none) | .ret r => some r | .next _ => none
theorem impl_rank_ok {w0 : World} {a0 : Int} {a1 : List (List Int)} {va1 : Value} (h1 : Ro (Kd.slice 2 (kf fI64)) w0 va1 a1) {r : Int} (hF : impl_rank a0 a1 = some r) :
    Calls Try.prog 106 [vI a0, va1].toArray w0 fun e w => ∃ v, e = .returned v ∧ Below w0.heap.size w0 w ∧ .int .i64 r = v := by
  refine calls_of (k := 137) Try.func106 rfl rfl (Nat.le_of_ble_eq_true rfl) fun a hf => ?_
  replace hf : Fr 137 a [(0, vI a0), (1, va1)] := hf
  refine c_start fun w ρ hw => ?_
  unfold impl_rank at hF
  refine c_seq <| c_region ?_
  refine s_ hf (r_assign hf rfl) fun a hf => ?_
  refine c_nt <| c_seq <| c_region ?_
  refine sx_ hf (r_lit_none (d := (Kd.slice 2 (kf fI64))) 1 Try.underlying24 el36 hw) fun a v1 w hf hΦ => ?_
  obtain ⟨ρ, hw, hE, o1⟩ := hΦ
  replace o1 : Gd fI64 2 36 ρ w w0.heap.size 1 v1 (fun _ => (⟨.bool false, rfl⟩ : V1)) ([] : List Nat) ([] : List (List Int)) := Gd.empty o1 rfl (by decide) _
  refine s_ hf (r_assign hf rfl) fun a hf => ?_
  refine c_nt <| c_seq <| c_seq <| c_region ?_
  refine s_ hf (r_move hf rfl) fun a hf => ?_
  refine s_ hf (r_len Try.underlying24 (h1.now hw) hf rfl) fun a hf => ?_
  refine s_ hf (r_move hf rfl) fun a hf => ?_
  refine c_nt ?_
  obtain ⟨ol1, ho1, hG1⟩ := of_bind hF
  clear hF
  refine c_block (c_loop (id := 0) (fun s => impl_rank_l1 a1 s.1 s.2.1 s.2.2) (fun (s : Int × (List Nat) × (List (List Int))) a w => match s with | (s2, s3, s4) => ∃ ρ vv5 f6, Wd w0 ρ w ∧ Fr 137 a [(0, vI a0), (5, vv5), (16, va1), (17, vI (a1.length : Int)), (18, vI s2)] ∧ Gd fI64 2 36 ρ w w0.heap.size 1 vv5 f6 s3 s4) (fun (s : Int × (List Nat) × (List (List Int))) a w => match s with | (s2, s3, s4) => ∃ ρ vv5 f6, Wd w0 ρ w ∧ Fr 137 a [(0, vI a0), (5, vv5)] ∧ Gd fI64 2 36 ρ w w0.heap.size 1 vv5 f6 s3 s4) ho1 ⟨_, _, _, hw, hf.sub ⟨rfl, rfl, rfl, rfl, rfl, trivial⟩, o1⟩ ?_ ?_)
  · rintro ⟨s2, s3, s4⟩ lr a w ⟨ρ, vv5, f6, hw, hf, o1⟩ hF
    replace hF : impl_rank_l1 a1 s2 s3 s4 = some lr := hF
    unfold impl_rank_l1 at hF
    refine c_seq <| c_region ?_
    refine s_ hf (r_lss hf rfl rfl) fun a hf => ?_
    refine c_nt <| c_seq ?_
    rcases of_ite hF with ⟨hb7, hF⟩ | ⟨hb7, hF⟩
    rotate_left
    · refine c_iff hf rfl hb7 <| c_exit <| x_then ?_
      obtain rfl := Option.some.inj hF
      exact Rnd.stops ⟨_, _, _, hw, hf.sub ⟨rfl, rfl, trivial⟩, o1⟩
    refine c_ift hf rfl hb7 <| c_skip <| n_then <| c_seq <| c_block <| c_seq <| c_region ?_
    obtain ⟨hc8, hF⟩ := of_guard hF
    obtain ⟨ad9, c9, u9, he9, hl9, ho9⟩ := Ro.el_row h1 hc8.1 hc8.2
    refine s_ hf (r_idx Try.underlying24 sz36 hf rfl ⟨_, he9⟩ rfl hc8.1 hc8.2) fun a hf => ?_
    refine s_ hf (r_load_cell ty36 hf rfl (hl9.below hw.below)) fun a hf => ?_
    refine s_ hf (r_assign hf rfl) fun a hf => ?_
    refine c_nt <| c_region ?_
    refine s_ hf (r_move hf rfl) fun a hf => ?_
    refine s_ hf (r_move hf rfl) fun a hf => ?_
    obtain ⟨x10, hx11, hF⟩ := of_bind hF
    refine st_fn 2 hw hf rfl rfl (by decide) (r_fn en111 hf rfl) (slices_Clone_111_ok (ho9.now hw) hx11) fun a v w ρ hf hw hE hN hΦ => ?_
    obtain ⟨u12, rfl, hr13⟩ := hΦ
    replace o1 := o1.ext hE
    have o2 := hN hr13
    refine sx_ hf (r_glit 3 Try.underlying24 el36 hw hf rfl o2) fun a v3 w hf hΦ => ?_
    obtain ⟨ρ, hw, hE, o3⟩ := hΦ
    replace o1 := o1.ext hE
    replace o2 := o2.ext hE
    obtain ⟨hc14, hF⟩ := of_guard hF
    refine sx_ hf (r_gapp' Try.underlying24 el36 hw (by decide) (by decide) (fun _ => by unfold lab; omega) o1 o3 o2 hc14 hf rfl rfl) fun a va15 w hf hΦ => ?_
    obtain ⟨f15, ρ, hw, hT, o1, hff15, hnu15⟩ := hΦ
    rw [hnu15] at hf
    have hn16 : s4.length < (s4 ++ [x10]).length := by simp
    refine s_ hf (r_assign hf rfl) fun a hf => ?_
    refine c_nil <| n_block <| n_then <| c_region ?_
    refine s_ hf (r_add hf rfl rfl) fun a hf => ?_
    refine s_ hf (r_move hf rfl) fun a hf => ?_
    refine c_nil ?_
    obtain rfl := Option.some.inj hF
    exact Rnd.goes ⟨_, _, _, hw, hf.sub ⟨rfl, rfl, rfl, rfl, rfl, trivial⟩, o1⟩
  rintro ⟨s2, s3, s4⟩ a w hs ⟨ρ, vv5, f6, hw, hf, o1⟩
  subst hs
  have hF := hG1
  dsimp only at hF
  refine x_block <| n_then <| c_seq <| c_region ?_
  refine s_ hf (r_assign hf rfl) fun a hf => ?_
  refine c_nt <| c_seq <| c_seq <| c_region ?_
  refine sx_ hf (r_alloc (cs := [vI 0]) 5 ze3 rfl hw) fun a v w hf hΦ => ?_
  obtain ⟨g5, ρ, rfl, hw, hE, o5⟩ := hΦ
  replace o1 := o1.ext hE
  refine sk_ hf (r_store_w (cs' := [vI 0]) hw o5 (by decide) ty3 rfl rfl (one_one rfl) hf rfl rfl rfl) fun a w hf hΦ => ?_
  obtain ⟨hw, hA, o5⟩ := hΦ
  replace o1 := o1.adv hA (by decide) (fun _ => by unfold lab; omega)
  refine c_nt ?_
  obtain ⟨ol17, ho17, hG17⟩ := of_bind hF
  clear hF
  refine c_block (c_loop (id := 2) (fun s => impl_rank_l17 a0 s.1 s.2.1 s.2.2.1 s.2.2.2) (fun (s : Int × (List Nat) × (List (List Int)) × Int) a w => match s with | (s18, s19, s20, s22) => ∃ ρ g21, Wd w0 ρ w ∧ Fr 137 a [(0, vI a0), (5, vv5), (8, vI s18), (9, .pointer (some ((⟨g21, 0, none⟩ : Addr).add 0)))] ∧ Gd fI64 2 36 ρ w w0.heap.size 1 vv5 f6 s19 s20 ∧ Va ρ w 5 g21 3 ([vI s22])) (fun (s : Int × (List Nat) × (List (List Int)) × Int) a w => match s with | (s18, s19, s20, s22) => ∃ ρ, Wd w0 ρ w ∧ Fr 137 a [(8, vI s18)]) ho17 ⟨_, _, hw, hf.sub ⟨rfl, rfl, rfl, rfl, trivial⟩, o1, o5⟩ ?_ ?_)
  · rintro ⟨s18, s19, s20, s22⟩ lr a w ⟨ρ, g21, hw, hf, o1, o5⟩ hF
    replace hF : impl_rank_l17 a0 s18 s19 s20 s22 = some lr := hF
    unfold impl_rank_l17 at hF
    refine c_seq <| c_seq ?_
    obtain ⟨s24, hT23, hG23⟩ := of_bind hF
    clear hF
    refine c_meet (fun (s24 : Bool) a w => ∃ ρ, Wd w0 ρ w ∧ Fr 137 a [(0, vI a0), (5, vv5), (8, vI s18), (9, .pointer (some ((⟨g21, 0, none⟩ : Addr).add 0))), (39, .bool s24)] ∧ Gd fI64 2 36 ρ w w0.heap.size 1 vv5 f6 s19 s20 ∧ Va ρ w 5 g21 3 ([vI s22])) s24 ?_ ?_
    · have hF := hT23
      rcases of_ite hF with ⟨hb25, hF⟩ | ⟨hb25, hF⟩
      rotate_left
      · replace hf : Fr 137 a [(0, vI a0), (5, vv5), (8, vI s18), (9, .pointer (some ((⟨g21, 0, none⟩ : Addr).add 0)))] := hf.sub ⟨rfl, rfl, rfl, rfl, trivial⟩
        refine c_drawL (h := 10) mixed (by kernel_rfl) (by kernel_rfl) (fun ρ w => Gd fI64 2 36 ρ w w0.heap.size 1 vv5 f6 s19 s20 ∧ Va ρ w 5 g21 3 ([vI s22])) ?_ [fun ρ w v => vI s18 = v, fun ρ w v => vv5 = v, fun ρ w v => vI (s19.length : Int) = v, fun ρ w v => .bool (decide (s18 < (s19.length : Int))) = v, fun ρ w v => .bool (decide (s18 < (s19.length : Int))) = v, fun ρ w v => undef = v, fun ρ w v => undef = v, fun ρ w v => undef = v, fun ρ w v => undef = v, fun ρ w v => undef = v] ?_ hw ⟨o1, o5⟩ hf ?_ ?_
        · intro ρ w ρ' w' hE hG
          obtain ⟨o1, o5⟩ := hG
          exact ⟨o1.ext hE, o5.ext hE⟩
        · exact LastsL.cons (fun _ _ _ _ _ _ h => h) <| LastsL.cons (fun _ _ _ _ _ _ h => h) <| LastsL.cons (fun _ _ _ _ _ _ h => h) <| LastsL.cons (fun _ _ _ _ _ _ h => h) <| LastsL.cons (fun _ _ _ _ _ _ h => h) <| LastsL.cons (fun _ _ _ _ _ _ h => h) <| LastsL.cons (fun _ _ _ _ _ _ h => h) <| LastsL.cons (fun _ _ _ _ _ _ h => h) <| LastsL.cons (fun _ _ _ _ _ _ h => h) <| LastsL.cons (fun _ _ _ _ _ _ h => h) <| LastsL.nil
        · refine StepsB.cons ?_ <| StepsB.cons ?_ <| StepsB.cons ?_ <| StepsB.cons ?_ <| StepsB.cons ?_ <| StepsB.cons ?_ <| StepsB.cons ?_ <| StepsB.cons ?_ <| StepsB.cons ?_ <| StepsB.cons ?_ <| StepsB.nil
          · intro ρ w a hw hG hf hd K hK
            obtain ⟨o1, o5⟩ := hG
            exact dv_ hK hw (wn rfl) (r_move hf rfl) rfl
          · intro ρ w a hw hG hf hd K hK
            obtain ⟨o1, o5⟩ := hG
            exact dv_ hK hw (wn rfl) (r_move hf rfl) rfl
          · intro ρ w a hw hG hf hd K hK
            obtain ⟨o1, o5⟩ := hG
            obtain ⟨_, hf, rfl⟩ := got (hd 1 (by kernel_rfl)) hf
            exact dv_ hK hw (wn rfl) (r_len Try.underlying24 o1.out.ro hf rfl) rfl
          · intro ρ w a hw hG hf hd K hK
            obtain ⟨o1, o5⟩ := hG
            obtain ⟨_, hf, rfl⟩ := got (hd 0 (by kernel_rfl)) hf
            obtain ⟨_, hf, rfl⟩ := got (hd 2 (by kernel_rfl)) hf
            exact dv_ hK hw (wn rfl) (r_lss hf rfl rfl) rfl
          · intro ρ w a hw hG hf hd K hK
            obtain ⟨o1, o5⟩ := hG
            obtain ⟨_, hf, rfl⟩ := got (hd 3 (by kernel_rfl)) hf
            exact dv_ hK hw (wn rfl) (r_move hf rfl) rfl
          · intro ρ w a hw hG hf hd K hK
            obtain ⟨o1, o5⟩ := hG
            obtain ⟨_, hf, rfl⟩ := got (hd 4 (by kernel_rfl)) hf
            exact do_ hK (b := false) hw hf rfl rfl rfl hb25 rfl rfl
          · intro ρ w a hw hG hf hd K hK
            obtain ⟨o1, o5⟩ := hG
            obtain ⟨_, hf, rfl⟩ := got (hd 4 (by kernel_rfl)) hf
            exact do_ hK (b := false) hw hf rfl rfl rfl hb25 rfl rfl
          · intro ρ w a hw hG hf hd K hK
            obtain ⟨o1, o5⟩ := hG
            obtain ⟨_, hf, rfl⟩ := got (hd 4 (by kernel_rfl)) hf
            obtain ⟨_, hf, rfl⟩ := got (hd 6 (by kernel_rfl)) hf
            exact do_ hK (b := false) hw hf rfl rfl rfl hb25 rfl rfl
          · intro ρ w a hw hG hf hd K hK
            obtain ⟨o1, o5⟩ := hG
            obtain ⟨_, hf, rfl⟩ := got (hd 4 (by kernel_rfl)) hf
            obtain ⟨_, hf, rfl⟩ := got (hd 7 (by kernel_rfl)) hf
            exact do_ hK (b := false) hw hf rfl rfl rfl hb25 rfl rfl
          · intro ρ w a hw hG hf hd K hK
            obtain ⟨o1, o5⟩ := hG
            obtain ⟨_, hf, rfl⟩ := got (hd 4 (by kernel_rfl)) hf
            obtain ⟨_, hf, rfl⟩ := got (hd 8 (by kernel_rfl)) hf
            exact do_ hK (b := false) hw hf rfl rfl rfl hb25 rfl rfl
        intro ρ w a hw hG hf hd
        obtain ⟨o1, o5⟩ := hG
        obtain ⟨_, hf, rfl⟩ := got (hd 4 (by decide)) hf
        obtain ⟨_, hf, rfl⟩ := got (hd 5 (by decide)) hf
        obtain ⟨_, hf, rfl⟩ := got (hd 9 (by decide)) hf
        refine st_no (b := false) hf rfl rfl rfl hb25 rfl (by decide) fun a hf => ?_
        refine s_ hf (r_pick (b := false) hf rfl hb25 rfl) fun a hf => ?_
        refine c_nil ⟨rfl, ?_⟩
        obtain rfl := Option.some.inj hF
        exact ⟨_, hw, hf.sub ⟨rfl, rfl, rfl, rfl, rfl, trivial⟩, o1, o5⟩
      obtain ⟨hc26, hF⟩ := of_guard hF
      replace hf : Fr 137 a [(0, vI a0), (5, vv5), (8, vI s18), (9, .pointer (some ((⟨g21, 0, none⟩ : Addr).add 0)))] := hf.sub ⟨rfl, rfl, rfl, rfl, trivial⟩
      refine c_drawL (h := 10) mixed (by kernel_rfl) (by kernel_rfl) (fun ρ w => Gd fI64 2 36 ρ w w0.heap.size 1 vv5 f6 s19 s20 ∧ Va ρ w 5 g21 3 ([vI s22])) ?_ [fun ρ w v => vI s18 = v, fun ρ w v => vv5 = v, fun ρ w v => vI (s19.length : Int) = v, fun ρ w v => .bool (decide (s18 < (s19.length : Int))) = v, fun ρ w v => .bool (decide (s18 < (s19.length : Int))) = v, fun ρ w v => vI s22 = v, fun ρ w v => vv5 = v, fun ρ w v => ∃ ad27, .pointer (some (ad27.add ((0 : Int).toNat * 1))) = v ∧ (gl 0 s19 (0 : Int)) < s20.length ∧ Ce ρ w 1 vv5 s19.length ad27 ((0 : Int).toNat * 1) ([(f6 (gl 0 s19 (0 : Int))).1]), fun ρ w v => (f6 (gl 0 s19 (0 : Int))).1 = v ∧ (gl 0 s19 (0 : Int)) < s20.length, fun ρ w v => vI ((s20.getD (gl 0 s19 (0 : Int)) []).length : Int) = v] ?_ hw ⟨o1, o5⟩ hf ?_ ?_
      · intro ρ w ρ' w' hE hG
        obtain ⟨o1, o5⟩ := hG
        exact ⟨o1.ext hE, o5.ext hE⟩
      · exact LastsL.cons (fun _ _ _ _ _ _ h => h) <| LastsL.cons (fun _ _ _ _ _ _ h => h) <| LastsL.cons (fun _ _ _ _ _ _ h => h) <| LastsL.cons (fun _ _ _ _ _ _ h => h) <| LastsL.cons (fun _ _ _ _ _ _ h => h) <| LastsL.cons (fun _ _ _ _ _ _ h => h) <| LastsL.cons (fun _ _ _ _ _ _ h => h) <| LastsL.cons (fun _ _ _ _ _ hE h => by obtain ⟨ad27, h, hn27, hl27⟩ := h; exact ⟨_, h, hn27, hl27.ext hE⟩) <| LastsL.cons (fun _ _ _ _ _ hE h => by obtain ⟨h, hn27⟩ := h; exact ⟨h, hn27⟩) <| LastsL.cons (fun _ _ _ _ _ _ h => h) <| LastsL.nil
      · refine StepsB.cons ?_ <| StepsB.cons ?_ <| StepsB.cons ?_ <| StepsB.cons ?_ <| StepsB.cons ?_ <| StepsB.cons ?_ <| StepsB.cons ?_ <| StepsB.cons ?_ <| StepsB.cons ?_ <| StepsB.cons ?_ <| StepsB.nil
        · intro ρ w a hw hG hf hd K hK
          obtain ⟨o1, o5⟩ := hG
          exact dv_ hK hw (wn rfl) (r_move hf rfl) rfl
        · intro ρ w a hw hG hf hd K hK
          obtain ⟨o1, o5⟩ := hG
          exact dv_ hK hw (wn rfl) (r_move hf rfl) rfl
        · intro ρ w a hw hG hf hd K hK
          obtain ⟨o1, o5⟩ := hG
          obtain ⟨_, hf, rfl⟩ := got (hd 1 (by kernel_rfl)) hf
          exact dv_ hK hw (wn rfl) (r_len Try.underlying24 o1.out.ro hf rfl) rfl
        · intro ρ w a hw hG hf hd K hK
          obtain ⟨o1, o5⟩ := hG
          obtain ⟨_, hf, rfl⟩ := got (hd 0 (by kernel_rfl)) hf
          obtain ⟨_, hf, rfl⟩ := got (hd 2 (by kernel_rfl)) hf
          exact dv_ hK hw (wn rfl) (r_lss hf rfl rfl) rfl
        · intro ρ w a hw hG hf hd K hK
          obtain ⟨o1, o5⟩ := hG
          obtain ⟨_, hf, rfl⟩ := got (hd 3 (by kernel_rfl)) hf
          exact dv_ hK hw (wn rfl) (r_move hf rfl) rfl
        · intro ρ w a hw hG hf hd K hK
          obtain ⟨o1, o5⟩ := hG
          obtain ⟨_, hf, rfl⟩ := got (hd 4 (by kernel_rfl)) hf
          exact dv_ hK hw (wg (b := true) hf rfl rfl rfl hb25) (r_load_cell ty3 hf rfl o5.cl) rfl
        · intro ρ w a hw hG hf hd K hK
          obtain ⟨o1, o5⟩ := hG
          obtain ⟨_, hf, rfl⟩ := got (hd 4 (by kernel_rfl)) hf
          exact dv_ hK hw (wg (b := true) hf rfl rfl rfl hb25) (r_move hf rfl) rfl
        · intro ρ w a hw hG hf hd K hK
          obtain ⟨o1, o5⟩ := hG
          obtain ⟨_, hf, rfl⟩ := got (hd 4 (by kernel_rfl)) hf
          obtain ⟨_, hf, rfl⟩ := got (hd 6 (by kernel_rfl)) hf
          obtain ⟨ad27, hl27⟩ := Ow.ce (d := fRef f6) o1.out 0 hc26.1 hc26.2
          have hn27 := o1.lt_gl hc26.1 hc26.2
          exact dv_ hK hw (wg (b := true) hf rfl rfl rfl hb25) (r_idx Try.underlying24 sz36 hf rfl hl27.at_ rfl hc26.1 hc26.2) (ex_ <| an_ rfl <| an_ hn27 <| hl27)
        · intro ρ w a hw hG hf hd K hK
          obtain ⟨o1, o5⟩ := hG
          obtain ⟨_, hf, rfl⟩ := got (hd 4 (by kernel_rfl)) hf
          obtain ⟨_, hf, ⟨ad27, rfl, hn27, hl27⟩⟩ := got (hd 7 (by kernel_rfl)) hf
          exact dv_ hK hw (wg (b := true) hf rfl rfl rfl hb25) (r_load_cell ty36 hf rfl hl27.co.cl) (an_ rfl <| hn27)
        · intro ρ w a hw hG hf hd K hK
          obtain ⟨o1, o5⟩ := hG
          obtain ⟨_, hf, rfl⟩ := got (hd 4 (by kernel_rfl)) hf
          obtain ⟨_, hf, ⟨rfl, hn27⟩⟩ := got (hd 8 (by kernel_rfl)) hf
          exact dv_ hK hw (wg (b := true) hf rfl rfl rfl hb25) (r_len Try.underlying36 ((o1.rowAt hn27).ro) hf rfl) rfl
      intro ρ w a hw hG hf hd
      obtain ⟨o1, o5⟩ := hG
      obtain ⟨_, hf, rfl⟩ := got (hd 4 (by decide)) hf
      obtain ⟨_, hf, rfl⟩ := got (hd 5 (by decide)) hf
      obtain ⟨_, hf, rfl⟩ := got (hd 9 (by decide)) hf
      refine st_g (b := true) hf rfl rfl rfl hb25 rfl (by decide) (r_lss hf rfl rfl) fun a hf => ?_
      refine s_ hf (r_pick (b := true) hf rfl hb25 rfl) fun a hf => ?_
      refine c_nil ⟨rfl, ?_⟩
      obtain rfl := Option.some.inj hF
      exact ⟨_, hw, hf.sub ⟨rfl, rfl, rfl, rfl, rfl, trivial⟩, o1, o5⟩
    rintro a w ⟨ρ, hw, hf, o1, o5⟩
    have hF := hG23
    refine n_then ?_
    rcases of_ite hF with ⟨hb28, hF⟩ | ⟨hb28, hF⟩
    rotate_left
    · refine c_iff hf rfl hb28 <| c_exit <| x_then ?_
      obtain rfl := Option.some.inj hF
      exact Rnd.stops ⟨_, hw, hf.sub ⟨rfl, trivial⟩⟩
    refine c_ift hf rfl hb28 <| c_skip <| n_then <| c_seq <| c_block <| c_seq <| c_region ?_
    refine s_ hf (r_move hf rfl) fun a hf => ?_
    refine s_ hf (r_move hf rfl) fun a hf => ?_
    obtain ⟨hc29, hF⟩ := of_guard hF
    have o8 : Ro (Kd.slice 2 (kf fI64)) w (cutV vv5 s18.toNat ((gi s19 s20).length : Int).toNat 1) (((gi s19 s20).take ((gi s19 s20).length : Int).toNat).drop s18.toNat) := ro_cutV o1.ro hc29.1 hc29.2 (Int.le_refl _)
    refine s_ hf (r_cut_v (lo := s18) (hi := ((gi s19 s20).length : Int)) Try.underlying24 sz36 rfl o1.ro hf rfl (.inr ⟨_, rfl, rfl⟩) (.inl ⟨rfl, rfl⟩) hc29.1 hc29.2 (Int.le_refl _)) fun a hf => ?_
    refine s_ hf (r_mkfn hf rfl) fun a hf => ?_
    obtain ⟨x30, hx31, hF⟩ := of_bind hF
    refine st_fn 9 hw hf rfl rfl (by decide) (r_fn en108 hf rfl) (slices_IndexFunc_108_f149_ok o8 o5.cl hx31) fun a v w ρ hf hw hE hN hΦ => ?_
    obtain rfl := hΦ
    replace o1 := o1.ext hE
    replace o5 := o5.ext hE
    replace o8 := o8.ext hE
    refine s_ hf (r_assign hf rfl) fun a hf => ?_
    refine c_nt <| c_seq <| c_seq <| c_region ?_
    refine s_ hf (r_move hf rfl) fun a hf => ?_
    refine s_ hf (r_lss hf rfl rfl) fun a hf => ?_
    refine c_nt ?_
    rcases of_ite hF with ⟨hb32, hF⟩ | ⟨hb32, hF⟩
    · refine c_ift hf rfl hb32 <| c_exit <| x_then <| x_block <| n_then <| c_seq <| c_seq <| c_region ?_
      refine s_ hf (r_load_cell ty3 hf rfl o5.cl) fun a hf => ?_
      refine c_nt <| c_region ?_
      refine sx_ hf (r_alloc (cs := [vI 0]) 10 ze3 rfl hw) fun a v w hf hΦ => ?_
      obtain ⟨g10, ρ, rfl, hw, hE, o10⟩ := hΦ
      replace o1 := o1.ext hE
      replace o5 := o5.ext hE
      replace o8 := o8.ext hE
      refine sk_ hf (r_store_w (cs' := [vI s22]) hw o10 (by decide) ty3 rfl rfl (one_one rfl) hf rfl rfl rfl) fun a w hf hΦ => ?_
      obtain ⟨hw, hA, o10⟩ := hΦ
      replace o1 := o1.adv hA (by decide) (fun _ => by unfold lab; omega)
      replace o5 := o5.adv hA (by decide)
      refine c_nt <| c_region ?_
      refine s_ hf (r_load_cell ty3 hf rfl o10.cl) fun a hf => ?_
      refine s_ hf (r_add hf rfl rfl) fun a hf => ?_
      refine sk_ hf (r_store_w (cs' := [vI (w64 (s22 + 1))]) hw o10 (by decide) ty3 rfl rfl (one_one rfl) hf rfl rfl rfl) fun a w hf hΦ => ?_
      obtain ⟨hw, hA, o10⟩ := hΦ
      replace o1 := o1.adv hA (by decide) (fun _ => by unfold lab; omega)
      replace o5 := o5.adv hA (by decide)
      refine c_nil ?_
      obtain rfl := Option.some.inj hF
      replace o1 := o1.tr (Tr.relab (j := 10) (b := 5) (by decide)) (fun _ => Tr.relab (by unfold lab; omega))
      replace o10 := o10.relab 5
      replace hw := hw.relab (j := 10) (by decide) 5
      exact Rnd.goes ⟨_, _, hw, hf.sub ⟨rfl, rfl, rfl, rfl, trivial⟩, o1, o10⟩
    refine c_iff hf rfl hb32 <| c_skip <| n_then <| c_seq ?_
    obtain ⟨hc33, hF⟩ := of_guard hF
    obtain ⟨hc35, hF⟩ := of_guard hF
    replace hf : Fr 137 a [(0, vI a0), (5, vv5), (8, vI s18), (9, .pointer (some ((⟨g21, 0, none⟩ : Addr).add 0))), (10, vI x30)] := hf.sub ⟨rfl, rfl, rfl, rfl, rfl, trivial⟩
    refine c_stage 18 [17] mixed (by kernel_rfl) (by kernel_rfl) (fun c ρ w => Va ρ w 5 g21 3 ([vI s22]) ∧ (c ≤ 0 → Gd fI64 2 36 ρ w w0.heap.size 1 vv5 f6 s19 s20) ∧ (0 < c → Gd fI64 2 36 ρ w w0.heap.size 1 vv5 f6 (s19.set s18.toNat (gl 0 s19 (w64 (s18 + x30)))) s20)) ?_ [fun c ρ w v => vv5 = v, fun c ρ w v => vI s18 = v, fun c ρ w v => vv5 = v, fun c ρ w v => vI s18 = v, fun c ρ w v => vI x30 = v, fun c ρ w v => vI (w64 (s18 + x30)) = v, fun c ρ w v => vv5 = v, fun c ρ w v => vI s18 = v, fun c ρ w v => vI x30 = v, fun c ρ w v => vI (w64 (s18 + x30)) = v, fun c ρ w v => ∃ ad34, .pointer (some (ad34.add ((w64 (s18 + x30)).toNat * 1))) = v ∧ (gl 0 s19 (w64 (s18 + x30))) < s20.length ∧ (c ≤ 0 → Ce ρ w 1 vv5 s19.length ad34 ((w64 (s18 + x30)).toNat * 1) ([(f6 (gl 0 s19 (w64 (s18 + x30)))).1])), fun c ρ w v => (f6 (gl 0 s19 (w64 (s18 + x30)))).1 = v ∧ (gl 0 s19 (w64 (s18 + x30))) < s20.length, fun c ρ w v => vv5 = v, fun c ρ w v => vI s18 = v, fun c ρ w v => ∃ ad36, .pointer (some (ad36.add (s18.toNat * 1))) = v ∧ (gl 0 s19 s18) < s20.length ∧ (c ≤ 0 → Ce ρ w 1 vv5 s19.length ad36 (s18.toNat * 1) ([(f6 (gl 0 s19 s18)).1])), fun c ρ w v => (f6 (gl 0 s19 s18)).1 = v ∧ (gl 0 s19 s18) < s20.length, fun c ρ w v => ∃ ad37, .pointer (some (ad37.add (s18.toNat * 1))) = v ∧ (gl 0 s19 s18) < s20.length ∧ (c ≤ 0 → Ce ρ w 1 vv5 s19.length ad37 (s18.toNat * 1) ([(f6 (gl 0 s19 s18)).1])), fun _ _ _ _ => True] ?_ hw ⟨o5, (fun _ => o1), (fun h => absurd h (Nat.not_lt_zero _))⟩ hf ?_ ?_
    · intro c ρ w ρ' w' hE hG
      obtain ⟨o5, o1x, o1y⟩ := hG
      exact ⟨o5.ext hE, (fun h => (o1x h).ext hE), (fun h => by obtain o1 := o1y h; exact o1.ext hE)⟩
    · exact LastsS.cons (fun _ _ _ _ _ _ _ h => h) <| LastsS.cons (fun _ _ _ _ _ _ _ h => h) <| LastsS.cons (fun _ _ _ _ _ _ _ h => h) <| LastsS.cons (fun _ _ _ _ _ _ _ h => h) <| LastsS.cons (fun _ _ _ _ _ _ _ h => h) <| LastsS.cons (fun _ _ _ _ _ _ _ h => h) <| LastsS.cons (fun _ _ _ _ _ _ _ h => h) <| LastsS.cons (fun _ _ _ _ _ _ _ h => h) <| LastsS.cons (fun _ _ _ _ _ _ _ h => h) <| LastsS.cons (fun _ _ _ _ _ _ _ h => h) <| LastsS.cons (fun c _ _ _ _ _ hE h => by obtain ⟨ad34, h, hn34, hl34⟩ := h; exact ⟨_, h, hn34, (fun h => (hl34 h).ext hE)⟩) <| LastsS.cons (fun c _ _ _ _ _ hE h => by obtain ⟨h, hn34⟩ := h; exact ⟨h, hn34⟩) <| LastsS.cons (fun _ _ _ _ _ _ _ h => h) <| LastsS.cons (fun _ _ _ _ _ _ _ h => h) <| LastsS.cons (fun c _ _ _ _ _ hE h => by obtain ⟨ad36, h, hn36, hl36⟩ := h; exact ⟨_, h, hn36, (fun h => (hl36 h).ext hE)⟩) <| LastsS.cons (fun c _ _ _ _ _ hE h => by obtain ⟨h, hn36⟩ := h; exact ⟨h, hn36⟩) <| LastsS.cons (fun c _ _ _ _ _ hE h => by obtain ⟨ad37, h, hn37, hl37⟩ := h; exact ⟨_, h, hn37, (fun h => (hl37 h).ext hE)⟩) <| LastsS.cons (fun _ _ _ _ _ _ _ h => h) <| LastsS.nil
    · refine StepsS.float rfl ?_ <| StepsS.float rfl ?_ <| StepsS.float rfl ?_ <| StepsS.float rfl ?_ <| StepsS.float rfl ?_ <| StepsS.float rfl ?_ <| StepsS.float rfl ?_ <| StepsS.float rfl ?_ <| StepsS.float rfl ?_ <| StepsS.float rfl ?_ <| StepsS.float rfl ?_ <| StepsS.float rfl ?_ <| StepsS.float rfl ?_ <| StepsS.float rfl ?_ <| StepsS.float rfl ?_ <| StepsS.float rfl ?_ <| StepsS.float rfl ?_ <| StepsS.main 0 rfl rfl ?_ <| StepsS.nil
      · intro c ρ w a hs hw hG hf hd K hK
        obtain ⟨o5, o1x, o1y⟩ := hG
        have o1 := o1x (hs 0 (by decide) (by kernel_rfl))
        exact dv_ hK hw (wn rfl) (r_move hf rfl) rfl
      · intro c ρ w a hs hw hG hf hd K hK
        obtain ⟨o5, o1x, o1y⟩ := hG
        have o1 := o1x (hs 0 (by decide) (by kernel_rfl))
        exact dv_ hK hw (wn rfl) (r_move hf rfl) rfl
      · intro c ρ w a hs hw hG hf hd K hK
        obtain ⟨o5, o1x, o1y⟩ := hG
        exact dv_ hK hw (wn rfl) (r_move hf rfl) rfl
      · intro c ρ w a hs hw hG hf hd K hK
        obtain ⟨o5, o1x, o1y⟩ := hG
        exact dv_ hK hw (wn rfl) (r_move hf rfl) rfl
      · intro c ρ w a hs hw hG hf hd K hK
        obtain ⟨o5, o1x, o1y⟩ := hG
        exact dv_ hK hw (wn rfl) (r_move hf rfl) rfl
      · intro c ρ w a hs hw hG hf hd K hK
        obtain ⟨o5, o1x, o1y⟩ := hG
        obtain ⟨_, ht3, rfl⟩ := hd 3 (by kernel_rfl) (by kernel_rfl)
        replace hf := hf.more ht3
        obtain ⟨_, ht4, rfl⟩ := hd 4 (by kernel_rfl) (by kernel_rfl)
        replace hf := hf.more ht4
        exact dv_ hK hw (wn rfl) (r_add hf rfl rfl) rfl
      · intro c ρ w a hs hw hG hf hd K hK
        obtain ⟨o5, o1x, o1y⟩ := hG
        have o1 := o1x (hs 0 (by decide) (by kernel_rfl))
        exact dv_ hK hw (wn rfl) (r_move hf rfl) rfl
      · intro c ρ w a hs hw hG hf hd K hK
        obtain ⟨o5, o1x, o1y⟩ := hG
        have o1 := o1x (hs 0 (by decide) (by kernel_rfl))
        exact dv_ hK hw (wn rfl) (r_move hf rfl) rfl
      · intro c ρ w a hs hw hG hf hd K hK
        obtain ⟨o5, o1x, o1y⟩ := hG
        have o1 := o1x (hs 0 (by decide) (by kernel_rfl))
        exact dv_ hK hw (wn rfl) (r_move hf rfl) rfl
      · intro c ρ w a hs hw hG hf hd K hK
        obtain ⟨o5, o1x, o1y⟩ := hG
        have o1 := o1x (hs 0 (by decide) (by kernel_rfl))
        obtain ⟨_, ht7, rfl⟩ := hd 7 (by kernel_rfl) (by kernel_rfl)
        replace hf := hf.more ht7
        obtain ⟨_, ht8, rfl⟩ := hd 8 (by kernel_rfl) (by kernel_rfl)
        replace hf := hf.more ht8
        exact dv_ hK hw (wn rfl) (r_add hf rfl rfl) rfl
      · intro c ρ w a hs hw hG hf hd K hK
        obtain ⟨o5, o1x, o1y⟩ := hG
        have o1 := o1x (hs 0 (by decide) (by kernel_rfl))
        obtain ⟨_, ht6, rfl⟩ := hd 6 (by kernel_rfl) (by kernel_rfl)
        replace hf := hf.more ht6
        obtain ⟨_, ht9, rfl⟩ := hd 9 (by kernel_rfl) (by kernel_rfl)
        replace hf := hf.more ht9
        obtain ⟨ad34, hl34⟩ := Ow.ce (d := fRef f6) o1.out 0 hc33.1 hc33.2
        have hn34 := o1.lt_gl hc33.1 hc33.2
        exact dv_ hK hw (wn rfl) (r_idx Try.underlying24 sz36 hf rfl hl34.at_ rfl hc33.1 hc33.2) (ex_ <| an_ rfl <| an_ hn34 <| fun _ => hl34)
      · intro c ρ w a hs hw hG hf hd K hK
        obtain ⟨o5, o1x, o1y⟩ := hG
        have o1 := o1x (hs 0 (by decide) (by kernel_rfl))
        obtain ⟨_, ht10, ⟨ad34, rfl, hn34, hl34⟩⟩ := hd 10 (by kernel_rfl) (by kernel_rfl)
        replace hl34 := hl34 (hs 0 (by decide) (by kernel_rfl))
        replace hf := hf.more ht10
        exact dv_ hK hw (wn rfl) (r_load_cell ty36 hf rfl hl34.co.cl) (an_ rfl <| hn34)
      · intro c ρ w a hs hw hG hf hd K hK
        obtain ⟨o5, o1x, o1y⟩ := hG
        exact dv_ hK hw (wn rfl) (r_move hf rfl) rfl
      · intro c ρ w a hs hw hG hf hd K hK
        obtain ⟨o5, o1x, o1y⟩ := hG
        exact dv_ hK hw (wn rfl) (r_move hf rfl) rfl
      · intro c ρ w a hs hw hG hf hd K hK
        obtain ⟨o5, o1x, o1y⟩ := hG
        have o1 := o1x (hs 0 (by decide) (by kernel_rfl))
        obtain ⟨_, ht12, rfl⟩ := hd 12 (by kernel_rfl) (by kernel_rfl)
        replace hf := hf.more ht12
        obtain ⟨_, ht13, rfl⟩ := hd 13 (by kernel_rfl) (by kernel_rfl)
        replace hf := hf.more ht13
        obtain ⟨ad36, hl36⟩ := Ow.ce (d := fRef f6) o1.out 0 hc35.1 hc35.2
        have hn36 := o1.lt_gl hc35.1 hc35.2
        exact dv_ hK hw (wn rfl) (r_idx Try.underlying24 sz36 hf rfl hl36.at_ rfl hc35.1 hc35.2) (ex_ <| an_ rfl <| an_ hn36 <| fun _ => hl36)
      · intro c ρ w a hs hw hG hf hd K hK
        obtain ⟨o5, o1x, o1y⟩ := hG
        have o1 := o1x (hs 0 (by decide) (by kernel_rfl))
        obtain ⟨_, ht14, ⟨ad36, rfl, hn36, hl36⟩⟩ := hd 14 (by kernel_rfl) (by kernel_rfl)
        replace hl36 := hl36 (hs 0 (by decide) (by kernel_rfl))
        replace hf := hf.more ht14
        exact dv_ hK hw (wn rfl) (r_load_cell ty36 hf rfl hl36.co.cl) (an_ rfl <| hn36)
      · intro c ρ w a hs hw hG hf hd K hK
        obtain ⟨o5, o1x, o1y⟩ := hG
        have o1 := o1x (hs 0 (by decide) (by kernel_rfl))
        obtain ⟨_, ht0, rfl⟩ := hd 0 (by kernel_rfl) (by kernel_rfl)
        replace hf := hf.more ht0
        obtain ⟨_, ht1, rfl⟩ := hd 1 (by kernel_rfl) (by kernel_rfl)
        replace hf := hf.more ht1
        obtain ⟨ad37, hl37⟩ := Ow.ce (d := fRef f6) o1.out 0 hc35.1 hc35.2
        have hn37 := o1.lt_gl hc35.1 hc35.2
        exact dv_ hK hw (wn rfl) (r_idx Try.underlying24 sz36 hf rfl hl37.at_ rfl hc35.1 hc35.2) (ex_ <| an_ rfl <| an_ hn37 <| fun _ => hl37)
      · intro ρ w a S hw hG hf hS hdep hSi K hK
        obtain ⟨o5, o1x, o1y⟩ := hG
        have hfL := hf
        have o1 := o1x (by decide)
        obtain ⟨_, ht11, ⟨rfl, hn34⟩⟩ := hS 11 (by decide) (hdep 11 (by kernel_rfl)) (by kernel_rfl)
        replace hf := hf.more ht11
        obtain ⟨_, ht16, ⟨ad37, rfl, hn37, hl37⟩⟩ := hS 16 (by decide) (hdep 16 (by kernel_rfl)) (by kernel_rfl)
        replace hl37 := hl37 (by decide)
        replace hf := hf.more ht16
        refine m_skip (Γ := fun c ρ w => Va ρ w 5 g21 3 ([vI s22]) ∧ (c ≤ 0 → Gd fI64 2 36 ρ w w0.heap.size 1 vv5 f6 s19 s20) ∧ (0 < c → Gd fI64 2 36 ρ w w0.heap.size 1 vv5 f6 (s19.set s18.toNat (gl 0 s19 (w64 (s18 + x30)))) s20)) (Rl := [fun c ρ w v => vv5 = v, fun c ρ w v => vI s18 = v, fun c ρ w v => vv5 = v, fun c ρ w v => vI s18 = v, fun c ρ w v => vI x30 = v, fun c ρ w v => vI (w64 (s18 + x30)) = v, fun c ρ w v => vv5 = v, fun c ρ w v => vI s18 = v, fun c ρ w v => vI x30 = v, fun c ρ w v => vI (w64 (s18 + x30)) = v, fun c ρ w v => ∃ ad34, .pointer (some (ad34.add ((w64 (s18 + x30)).toNat * 1))) = v ∧ (gl 0 s19 (w64 (s18 + x30))) < s20.length ∧ (c ≤ 0 → Ce ρ w 1 vv5 s19.length ad34 ((w64 (s18 + x30)).toNat * 1) ([(f6 (gl 0 s19 (w64 (s18 + x30)))).1])), fun c ρ w v => (f6 (gl 0 s19 (w64 (s18 + x30)))).1 = v ∧ (gl 0 s19 (w64 (s18 + x30))) < s20.length, fun c ρ w v => vv5 = v, fun c ρ w v => vI s18 = v, fun c ρ w v => ∃ ad36, .pointer (some (ad36.add (s18.toNat * 1))) = v ∧ (gl 0 s19 s18) < s20.length ∧ (c ≤ 0 → Ce ρ w 1 vv5 s19.length ad36 (s18.toNat * 1) ([(f6 (gl 0 s19 s18)).1])), fun c ρ w v => (f6 (gl 0 s19 s18)).1 = v ∧ (gl 0 s19 s18) < s20.length, fun c ρ w v => ∃ ad37, .pointer (some (ad37.add (s18.toNat * 1))) = v ∧ (gl 0 s19 s18) < s20.length ∧ (c ≤ 0 → Ce ρ w 1 vv5 s19.length ad37 (s18.toNat * 1) ([(f6 (gl 0 s19 s18)).1])), fun _ _ _ _ => True]) hfL hS (by kernel_rfl) rfl (wn rfl) (r_gset (p := s18) hw o1 hn34 hc35.1 hc35.2 hl37.at_ ty36 rfl hf rfl rfl) (fun w' hΦ => ?_) hK
        obtain ⟨hw, hA, o1⟩ := hΦ
        replace o5 := o5.adv hA (by decide)
        refine ⟨_, hw, ⟨o5, (fun h => absurd h (by decide)), (fun _ => o1)⟩, ?_⟩
        · exact PassL.cons (fun h => h) <| PassL.cons (fun h => h) <| PassL.cons (fun h => h) <| PassL.cons (fun h => h) <| PassL.cons (fun h => h) <| PassL.cons (fun h => h) <| PassL.cons (fun h => h) <| PassL.cons (fun h => h) <| PassL.cons (fun h => h) <| PassL.cons (fun h => h) <| PassL.cons (fun h => by obtain ⟨_, ht, ad34, h, hn34, hl34⟩ := h; exact ⟨_, ht, _, h, hn34, (fun h => absurd h (by decide))⟩) <| PassL.cons (fun h => by obtain ⟨_, ht, h, hn34⟩ := h; exact ⟨_, ht, h, hn34⟩) <| PassL.cons (fun h => h) <| PassL.cons (fun h => h) <| PassL.cons (fun h => by obtain ⟨_, ht, ad36, h, hn36, hl36⟩ := h; exact ⟨_, ht, _, h, hn36, (fun h => absurd h (by decide))⟩) <| PassL.cons (fun h => by obtain ⟨_, ht, h, hn36⟩ := h; exact ⟨_, ht, h, hn36⟩) <| PassL.cons (fun h => by obtain ⟨_, ht, ad37, h, hn37, hl37⟩ := h; exact ⟨_, ht, _, h, hn37, (fun h => absurd h (by decide))⟩) <| PassL.here <| PassL.nil
    intro ρ w a hw hG hf hd
    obtain ⟨o5, o1x, o1y⟩ := hG
    obtain o1 := o1y (by decide)
    obtain ⟨_, hf, rfl⟩ := got (hd 2 (by decide) (by kernel_rfl)) hf
    obtain ⟨_, hf, rfl⟩ := got (hd 5 (by decide) (by kernel_rfl)) hf
    obtain ⟨_, hf, ⟨rfl, hn36⟩⟩ := got (hd 15 (by decide) (by kernel_rfl)) hf
    obtain ⟨hc38, hF⟩ := of_guard hF
    obtain ⟨ad39, hl39⟩ := Ow.ce (d := fRef f6) o1.out 0 hc38.1 hc38.2
    have hn39 := o1.lt_gl hc38.1 hc38.2
    refine s_ hf (r_idx Try.underlying24 sz36 hf rfl hl39.at_ rfl hc38.1 hc38.2) fun a hf => ?_
    refine sk_ hf (r_gset (p := w64 (s18 + x30)) hw o1 hn36 hc38.1 hc38.2 hl39.at_ ty36 rfl hf rfl rfl) fun a w hf hΦ => ?_
    obtain ⟨hw, hA, o1⟩ := hΦ
    replace o5 := o5.adv hA (by decide)
    refine c_nt <| c_seq ?_
    obtain ⟨hc40, hF⟩ := of_guard hF
    obtain ⟨hc42, hF⟩ := of_guard hF
    replace hf : Fr 137 a [(0, vI a0), (5, vv5), (8, vI s18), (9, .pointer (some ((⟨g21, 0, none⟩ : Addr).add 0)))] := hf.sub ⟨rfl, rfl, rfl, rfl, trivial⟩
    refine c_drawL (h := 8) mixed (by kernel_rfl) (by kernel_rfl) (fun ρ w => Gd fI64 2 36 ρ w w0.heap.size 1 vv5 f6 ((s19.set s18.toNat (gl 0 s19 (w64 (s18 + x30)))).set (w64 (s18 + x30)).toNat (gl 0 s19 s18)) s20 ∧ Va ρ w 5 g21 3 ([vI s22])) ?_ [fun ρ w v => vI a0 = v, fun ρ w v => vv5 = v, fun ρ w v => vI s18 = v, fun ρ w v => ∃ ad41, .pointer (some (ad41.add (s18.toNat * 1))) = v ∧ (gl 0 ((s19.set s18.toNat (gl 0 s19 (w64 (s18 + x30)))).set (w64 (s18 + x30)).toNat (gl 0 s19 s18)) s18) < s20.length ∧ Ce ρ w 1 vv5 (((s19.set s18.toNat (gl 0 s19 (w64 (s18 + x30)))).set (w64 (s18 + x30)).toNat (gl 0 s19 s18)).length) ad41 (s18.toNat * 1) ([(f6 (gl 0 ((s19.set s18.toNat (gl 0 s19 (w64 (s18 + x30)))).set (w64 (s18 + x30)).toNat (gl 0 s19 s18)) s18)).1]), fun ρ w v => (f6 (gl 0 ((s19.set s18.toNat (gl 0 s19 (w64 (s18 + x30)))).set (w64 (s18 + x30)).toNat (gl 0 s19 s18)) s18)).1 = v ∧ (gl 0 ((s19.set s18.toNat (gl 0 s19 (w64 (s18 + x30)))).set (w64 (s18 + x30)).toNat (gl 0 s19 s18)) s18) < s20.length, fun ρ w v => vI s22 = v, fun ρ w v => ∃ ad43, .pointer (some (ad43.add (s22.toNat * 1))) = v ∧ Ce ρ w (lab 1 (gl 0 ((s19.set s18.toNat (gl 0 s19 (w64 (s18 + x30)))).set (w64 (s18 + x30)).toNat (gl 0 s19 s18)) s18)) ((f6 (gl 0 ((s19.set s18.toNat (gl 0 s19 (w64 (s18 + x30)))).set (w64 (s18 + x30)).toNat (gl 0 s19 s18)) s18)).1) ((s20.getD (gl 0 ((s19.set s18.toNat (gl 0 s19 (w64 (s18 + x30)))).set (w64 (s18 + x30)).toNat (gl 0 s19 s18)) s18) []).length) ad43 (s22.toNat * 1) (fI64.enc (gl 0 (s20.getD (gl 0 ((s19.set s18.toNat (gl 0 s19 (w64 (s18 + x30)))).set (w64 (s18 + x30)).toNat (gl 0 s19 s18)) s18) []) s22)), fun ρ w v => vI (gl 0 (s20.getD (gl 0 ((s19.set s18.toNat (gl 0 s19 (w64 (s18 + x30)))).set (w64 (s18 + x30)).toNat (gl 0 s19 s18)) s18) []) s22) = v] ?_ hw ⟨o1, o5⟩ hf ?_ ?_
    · intro ρ w ρ' w' hE hG
      obtain ⟨o1, o5⟩ := hG
      exact ⟨o1.ext hE, o5.ext hE⟩
    · exact LastsL.cons (fun _ _ _ _ _ _ h => h) <| LastsL.cons (fun _ _ _ _ _ _ h => h) <| LastsL.cons (fun _ _ _ _ _ _ h => h) <| LastsL.cons (fun _ _ _ _ _ hE h => by obtain ⟨ad41, h, hn41, hl41⟩ := h; exact ⟨_, h, hn41, hl41.ext hE⟩) <| LastsL.cons (fun _ _ _ _ _ hE h => by obtain ⟨h, hn41⟩ := h; exact ⟨h, hn41⟩) <| LastsL.cons (fun _ _ _ _ _ _ h => h) <| LastsL.cons (fun _ _ _ _ _ hE h => by obtain ⟨ad43, h, hl43⟩ := h; exact ⟨_, h, hl43.ext hE⟩) <| LastsL.cons (fun _ _ _ _ _ _ h => h) <| LastsL.nil
    · refine StepsB.cons ?_ <| StepsB.cons ?_ <| StepsB.cons ?_ <| StepsB.cons ?_ <| StepsB.cons ?_ <| StepsB.cons ?_ <| StepsB.cons ?_ <| StepsB.cons ?_ <| StepsB.nil
      · intro ρ w a hw hG hf hd K hK
        obtain ⟨o1, o5⟩ := hG
        exact dv_ hK hw (wn rfl) (r_move hf rfl) rfl
      · intro ρ w a hw hG hf hd K hK
        obtain ⟨o1, o5⟩ := hG
        exact dv_ hK hw (wn rfl) (r_move hf rfl) rfl
      · intro ρ w a hw hG hf hd K hK
        obtain ⟨o1, o5⟩ := hG
        exact dv_ hK hw (wn rfl) (r_move hf rfl) rfl
      · intro ρ w a hw hG hf hd K hK
        obtain ⟨o1, o5⟩ := hG
        obtain ⟨_, hf, rfl⟩ := got (hd 1 (by kernel_rfl)) hf
        obtain ⟨_, hf, rfl⟩ := got (hd 2 (by kernel_rfl)) hf
        obtain ⟨ad41, hl41⟩ := Ow.ce (d := fRef f6) o1.out 0 hc40.1 hc40.2
        have hn41 := o1.lt_gl hc40.1 hc40.2
        exact dv_ hK hw (wn rfl) (r_idx Try.underlying24 sz36 hf rfl hl41.at_ rfl hc40.1 hc40.2) (ex_ <| an_ rfl <| an_ hn41 <| hl41)
      · intro ρ w a hw hG hf hd K hK
        obtain ⟨o1, o5⟩ := hG
        obtain ⟨_, hf, ⟨ad41, rfl, hn41, hl41⟩⟩ := got (hd 3 (by kernel_rfl)) hf
        exact dv_ hK hw (wn rfl) (r_load_cell ty36 hf rfl hl41.co.cl) (an_ rfl <| hn41)
      · intro ρ w a hw hG hf hd K hK
        obtain ⟨o1, o5⟩ := hG
        exact dv_ hK hw (wn rfl) (r_load_cell ty3 hf rfl o5.cl) rfl
      · intro ρ w a hw hG hf hd K hK
        obtain ⟨o1, o5⟩ := hG
        obtain ⟨_, hf, ⟨rfl, hn41⟩⟩ := got (hd 4 (by kernel_rfl)) hf
        obtain ⟨_, hf, rfl⟩ := got (hd 5 (by kernel_rfl)) hf
        obtain ⟨ad43, hl43⟩ := Ow.ce (d := fI64) (o1.rowAt hn41) 0 hc42.1 hc42.2
        exact dv_ hK hw (wn rfl) (r_idx Try.underlying36 sz2 hf rfl hl43.at_ rfl hc42.1 hc42.2) (ex_ <| an_ rfl <| hl43)
      · intro ρ w a hw hG hf hd K hK
        obtain ⟨o1, o5⟩ := hG
        obtain ⟨_, hf, ⟨ad43, rfl, hl43⟩⟩ := got (hd 6 (by kernel_rfl)) hf
        exact dv_ hK hw (wn rfl) (r_load_cell ty2 hf rfl hl43.co.cl) rfl
    intro ρ w a hw hG hf hd
    obtain ⟨o1, o5⟩ := hG
    obtain ⟨_, hf, rfl⟩ := got (hd 0 (by decide)) hf
    obtain ⟨_, hf, rfl⟩ := got (hd 7 (by decide)) hf
    obtain ⟨x44, hx45, hF⟩ := of_bind hF
    refine st_fn 22 hw hf rfl rfl (by decide) (r_fn en110 hf rfl) (impl_inverse_ok  hx45) fun a v w ρ hf hw hE hN hΦ => ?_
    obtain rfl := hΦ
    replace o1 := o1.ext hE
    replace o5 := o5.ext hE
    refine s_ hf (r_assign hf rfl) fun a hf => ?_
    refine c_nt <| c_seq <| c_seq <| c_region ?_
    refine s_ hf (r_move hf rfl) fun a hf => ?_
    refine s_ hf (r_add hf rfl rfl) fun a hf => ?_
    refine s_ hf (r_assign hf rfl) fun a hf => ?_
    refine c_nt ?_
    obtain ⟨ol46, ho46, hG46⟩ := of_bind hF
    clear hF
    refine c_block (c_loop (id := 4) (fun s => impl_rank_l46 a0 s18 s19 s22 x30 x44 s.1 s.2) (fun (s : Int × (List (List Int))) a w => match s with | (s47, s48) => ∃ ρ, Wd w0 ρ w ∧ Fr 137 a [(0, vI a0), (5, vv5), (8, vI s18), (9, .pointer (some ((⟨g21, 0, none⟩ : Addr).add 0))), (11, vI x44), (12, vI s47)] ∧ Gd fI64 2 36 ρ w w0.heap.size 1 vv5 f6 ((s19.set s18.toNat (gl 0 s19 (w64 (s18 + x30)))).set (w64 (s18 + x30)).toNat (gl 0 s19 s18)) s48 ∧ Va ρ w 5 g21 3 ([vI s22])) (fun (s : Int × (List (List Int))) a w => match s with | (s47, s48) => ∃ ρ, Wd w0 ρ w ∧ Fr 137 a [(0, vI a0), (5, vv5), (8, vI s18), (9, .pointer (some ((⟨g21, 0, none⟩ : Addr).add 0)))] ∧ Gd fI64 2 36 ρ w w0.heap.size 1 vv5 f6 ((s19.set s18.toNat (gl 0 s19 (w64 (s18 + x30)))).set (w64 (s18 + x30)).toNat (gl 0 s19 s18)) s48 ∧ Va ρ w 5 g21 3 ([vI s22])) ho46 ⟨_, hw, hf.sub ⟨rfl, rfl, rfl, rfl, rfl, rfl, trivial⟩, o1, o5⟩ ?_ ?_)
    · rintro ⟨s47, s48⟩ lr a w ⟨ρ, hw, hf, o1, o5⟩ hF
      replace hF : impl_rank_l46 a0 s18 s19 s22 x30 x44 s47 s48 = some lr := hF
      unfold impl_rank_l46 at hF
      refine c_seq <| c_seq <| c_region ?_
      refine s_ hf (r_move hf rfl) fun a hf => ?_
      refine s_ hf (r_move hf rfl) fun a hf => ?_
      refine s_ hf (r_len Try.underlying24 o1.out.ro hf rfl) fun a hf => ?_
      refine s_ hf (r_lss hf rfl rfl) fun a hf => ?_
      refine c_nt ?_
      rcases of_ite hF with ⟨hb49, hF⟩ | ⟨hb49, hF⟩
      rotate_left
      · refine c_iff hf rfl hb49 <| c_exit <| x_then ?_
        obtain rfl := Option.some.inj hF
        exact Rnd.stops ⟨_, hw, hf.sub ⟨rfl, rfl, rfl, rfl, trivial⟩, o1, o5⟩
      refine c_ift hf rfl hb49 <| c_skip <| n_then <| c_seq <| c_block <| c_seq ?_
      obtain ⟨hc50, hF⟩ := of_guard hF
      obtain ⟨hc52, hF⟩ := of_guard hF
      replace hf : Fr 137 a [(0, vI a0), (5, vv5), (8, vI s18), (9, .pointer (some ((⟨g21, 0, none⟩ : Addr).add 0))), (11, vI x44), (12, vI s47)] := hf.sub ⟨rfl, rfl, rfl, rfl, rfl, rfl, trivial⟩
      refine c_drawL (h := 10) mixed (by kernel_rfl) (by kernel_rfl) (fun ρ w => Gd fI64 2 36 ρ w w0.heap.size 1 vv5 f6 ((s19.set s18.toNat (gl 0 s19 (w64 (s18 + x30)))).set (w64 (s18 + x30)).toNat (gl 0 s19 s18)) s48 ∧ Va ρ w 5 g21 3 ([vI s22])) ?_ [fun ρ w v => vv5 = v, fun ρ w v => vI s47 = v, fun ρ w v => ∃ ad51, .pointer (some (ad51.add (s47.toNat * 1))) = v ∧ (gl 0 ((s19.set s18.toNat (gl 0 s19 (w64 (s18 + x30)))).set (w64 (s18 + x30)).toNat (gl 0 s19 s18)) s47) < s48.length ∧ Ce ρ w 1 vv5 (((s19.set s18.toNat (gl 0 s19 (w64 (s18 + x30)))).set (w64 (s18 + x30)).toNat (gl 0 s19 s18)).length) ad51 (s47.toNat * 1) ([(f6 (gl 0 ((s19.set s18.toNat (gl 0 s19 (w64 (s18 + x30)))).set (w64 (s18 + x30)).toNat (gl 0 s19 s18)) s47)).1]), fun ρ w v => (f6 (gl 0 ((s19.set s18.toNat (gl 0 s19 (w64 (s18 + x30)))).set (w64 (s18 + x30)).toNat (gl 0 s19 s18)) s47)).1 = v ∧ (gl 0 ((s19.set s18.toNat (gl 0 s19 (w64 (s18 + x30)))).set (w64 (s18 + x30)).toNat (gl 0 s19 s18)) s47) < s48.length, fun ρ w v => vI s22 = v, fun ρ w v => ∃ ad53, .pointer (some (ad53.add (s22.toNat * 1))) = v ∧ Ce ρ w (lab 1 (gl 0 ((s19.set s18.toNat (gl 0 s19 (w64 (s18 + x30)))).set (w64 (s18 + x30)).toNat (gl 0 s19 s18)) s47)) ((f6 (gl 0 ((s19.set s18.toNat (gl 0 s19 (w64 (s18 + x30)))).set (w64 (s18 + x30)).toNat (gl 0 s19 s18)) s47)).1) ((s48.getD (gl 0 ((s19.set s18.toNat (gl 0 s19 (w64 (s18 + x30)))).set (w64 (s18 + x30)).toNat (gl 0 s19 s18)) s47) []).length) ad53 (s22.toNat * 1) (fI64.enc (gl 0 (s48.getD (gl 0 ((s19.set s18.toNat (gl 0 s19 (w64 (s18 + x30)))).set (w64 (s18 + x30)).toNat (gl 0 s19 s18)) s47) []) s22)), fun ρ w v => vI (gl 0 (s48.getD (gl 0 ((s19.set s18.toNat (gl 0 s19 (w64 (s18 + x30)))).set (w64 (s18 + x30)).toNat (gl 0 s19 s18)) s47) []) s22) = v, fun ρ w v => vI x44 = v, fun ρ w v => vI (w64 ((gl 0 (s48.getD (gl 0 ((s19.set s18.toNat (gl 0 s19 (w64 (s18 + x30)))).set (w64 (s18 + x30)).toNat (gl 0 s19 s18)) s47) []) s22) * x44)) = v, fun ρ w v => vI a0 = v] ?_ hw ⟨o1, o5⟩ hf ?_ ?_
      · intro ρ w ρ' w' hE hG
        obtain ⟨o1, o5⟩ := hG
        exact ⟨o1.ext hE, o5.ext hE⟩
      · exact LastsL.cons (fun _ _ _ _ _ _ h => h) <| LastsL.cons (fun _ _ _ _ _ _ h => h) <| LastsL.cons (fun _ _ _ _ _ hE h => by obtain ⟨ad51, h, hn51, hl51⟩ := h; exact ⟨_, h, hn51, hl51.ext hE⟩) <| LastsL.cons (fun _ _ _ _ _ hE h => by obtain ⟨h, hn51⟩ := h; exact ⟨h, hn51⟩) <| LastsL.cons (fun _ _ _ _ _ _ h => h) <| LastsL.cons (fun _ _ _ _ _ hE h => by obtain ⟨ad53, h, hl53⟩ := h; exact ⟨_, h, hl53.ext hE⟩) <| LastsL.cons (fun _ _ _ _ _ _ h => h) <| LastsL.cons (fun _ _ _ _ _ _ h => h) <| LastsL.cons (fun _ _ _ _ _ _ h => h) <| LastsL.cons (fun _ _ _ _ _ _ h => h) <| LastsL.nil
      · refine StepsB.cons ?_ <| StepsB.cons ?_ <| StepsB.cons ?_ <| StepsB.cons ?_ <| StepsB.cons ?_ <| StepsB.cons ?_ <| StepsB.cons ?_ <| StepsB.cons ?_ <| StepsB.cons ?_ <| StepsB.cons ?_ <| StepsB.nil
        · intro ρ w a hw hG hf hd K hK
          obtain ⟨o1, o5⟩ := hG
          exact dv_ hK hw (wn rfl) (r_move hf rfl) rfl
        · intro ρ w a hw hG hf hd K hK
          obtain ⟨o1, o5⟩ := hG
          exact dv_ hK hw (wn rfl) (r_move hf rfl) rfl
        · intro ρ w a hw hG hf hd K hK
          obtain ⟨o1, o5⟩ := hG
          obtain ⟨_, hf, rfl⟩ := got (hd 0 (by kernel_rfl)) hf
          obtain ⟨_, hf, rfl⟩ := got (hd 1 (by kernel_rfl)) hf
          obtain ⟨ad51, hl51⟩ := Ow.ce (d := fRef f6) o1.out 0 hc50.1 hc50.2
          have hn51 := o1.lt_gl hc50.1 hc50.2
          exact dv_ hK hw (wn rfl) (r_idx Try.underlying24 sz36 hf rfl hl51.at_ rfl hc50.1 hc50.2) (ex_ <| an_ rfl <| an_ hn51 <| hl51)
        · intro ρ w a hw hG hf hd K hK
          obtain ⟨o1, o5⟩ := hG
          obtain ⟨_, hf, ⟨ad51, rfl, hn51, hl51⟩⟩ := got (hd 2 (by kernel_rfl)) hf
          exact dv_ hK hw (wn rfl) (r_load_cell ty36 hf rfl hl51.co.cl) (an_ rfl <| hn51)
        · intro ρ w a hw hG hf hd K hK
          obtain ⟨o1, o5⟩ := hG
          exact dv_ hK hw (wn rfl) (r_load_cell ty3 hf rfl o5.cl) rfl
        · intro ρ w a hw hG hf hd K hK
          obtain ⟨o1, o5⟩ := hG
          obtain ⟨_, hf, ⟨rfl, hn51⟩⟩ := got (hd 3 (by kernel_rfl)) hf
          obtain ⟨_, hf, rfl⟩ := got (hd 4 (by kernel_rfl)) hf
          obtain ⟨ad53, hl53⟩ := Ow.ce (d := fI64) (o1.rowAt hn51) 0 hc52.1 hc52.2
          exact dv_ hK hw (wn rfl) (r_idx Try.underlying36 sz2 hf rfl hl53.at_ rfl hc52.1 hc52.2) (ex_ <| an_ rfl <| hl53)
        · intro ρ w a hw hG hf hd K hK
          obtain ⟨o1, o5⟩ := hG
          obtain ⟨_, hf, ⟨ad53, rfl, hl53⟩⟩ := got (hd 5 (by kernel_rfl)) hf
          exact dv_ hK hw (wn rfl) (r_load_cell ty2 hf rfl hl53.co.cl) rfl
        · intro ρ w a hw hG hf hd K hK
          obtain ⟨o1, o5⟩ := hG
          exact dv_ hK hw (wn rfl) (r_move hf rfl) rfl
        · intro ρ w a hw hG hf hd K hK
          obtain ⟨o1, o5⟩ := hG
          obtain ⟨_, hf, rfl⟩ := got (hd 6 (by kernel_rfl)) hf
          obtain ⟨_, hf, rfl⟩ := got (hd 7 (by kernel_rfl)) hf
          exact dv_ hK hw (wn rfl) (r_mul hf rfl rfl) rfl
        · intro ρ w a hw hG hf hd K hK
          obtain ⟨o1, o5⟩ := hG
          exact dv_ hK hw (wn rfl) (r_move hf rfl) rfl
      intro ρ w a hw hG hf hd
      obtain ⟨o1, o5⟩ := hG
      obtain ⟨_, hf, rfl⟩ := got (hd 8 (by decide)) hf
      obtain ⟨_, hf, rfl⟩ := got (hd 9 (by decide)) hf
      obtain ⟨hc54, hF⟩ := of_guard hF
      refine s_ hf (r_rem hf rfl rfl hc54) fun a hf => ?_
      refine s_ hf (r_assign hf rfl) fun a hf => ?_
      refine c_nt <| c_seq <| c_region ?_
      refine s_ hf (r_move hf rfl) fun a hf => ?_
      refine s_ hf (r_move hf rfl) fun a hf => ?_
      obtain ⟨ad55, hl55⟩ := Ow.ce (d := fRef f6) o1.out 0 hc50.1 hc50.2
      have hn55 := o1.lt_gl hc50.1 hc50.2
      refine s_ hf (r_idx Try.underlying24 sz36 hf rfl hl55.at_ rfl hc50.1 hc50.2) fun a hf => ?_
      refine s_ hf (r_load_cell ty36 hf rfl hl55.co.cl) fun a hf => ?_
      refine s_ hf (r_len Try.underlying36 ((o1.rowAt hn55).ro) hf rfl) fun a hf => ?_
      refine s_ hf (r_move hf rfl) fun a hf => ?_
      refine c_nt ?_
      obtain ⟨ol56, ho56, hG56⟩ := of_bind hF
      clear hF
      refine c_block (c_loop (id := 6) (fun s => impl_rank_l56 a0 s18 s19 s22 x30 x44 s47 s48 s.1 s.2) (fun (s : Int × (List (List Int))) a w => match s with | (s57, s58) => ∃ ρ, Wd w0 ρ w ∧ Fr 137 a [(0, vI a0), (5, vv5), (8, vI s18), (9, .pointer (some ((⟨g21, 0, none⟩ : Addr).add 0))), (11, vI x44), (12, vI s47), (13, vI ((w64 ((gl 0 (s48.getD (gl 0 ((s19.set s18.toNat (gl 0 s19 (w64 (s18 + x30)))).set (w64 (s18 + x30)).toNat (gl 0 s19 s18)) s47) []) s22) * x44)).tmod a0)), (99, vI ((s48.getD (gl 0 ((s19.set s18.toNat (gl 0 s19 (w64 (s18 + x30)))).set (w64 (s18 + x30)).toNat (gl 0 s19 s18)) s47) []).length : Int)), (100, vI s57)] ∧ Gd fI64 2 36 ρ w w0.heap.size 1 vv5 f6 ((s19.set s18.toNat (gl 0 s19 (w64 (s18 + x30)))).set (w64 (s18 + x30)).toNat (gl 0 s19 s18)) s58 ∧ Va ρ w 5 g21 3 ([vI s22])) (fun (s : Int × (List (List Int))) a w => match s with | (s57, s58) => ∃ ρ, Wd w0 ρ w ∧ Fr 137 a [(0, vI a0), (5, vv5), (8, vI s18), (9, .pointer (some ((⟨g21, 0, none⟩ : Addr).add 0))), (11, vI x44), (12, vI s47)] ∧ Gd fI64 2 36 ρ w w0.heap.size 1 vv5 f6 ((s19.set s18.toNat (gl 0 s19 (w64 (s18 + x30)))).set (w64 (s18 + x30)).toNat (gl 0 s19 s18)) s58 ∧ Va ρ w 5 g21 3 ([vI s22])) ho56 ⟨_, hw, hf.sub ⟨rfl, rfl, rfl, rfl, rfl, rfl, rfl, rfl, rfl, trivial⟩, o1, o5⟩ ?_ ?_)
      · rintro ⟨s57, s58⟩ lr a w ⟨ρ, hw, hf, o1, o5⟩ hF
        replace hF : impl_rank_l56 a0 s18 s19 s22 x30 x44 s47 s48 s57 s58 = some lr := hF
        unfold impl_rank_l56 at hF
        refine c_seq <| c_region ?_
        refine s_ hf (r_lss hf rfl rfl) fun a hf => ?_
        refine c_nt <| c_seq ?_
        rcases of_ite hF with ⟨hb59, hF⟩ | ⟨hb59, hF⟩
        rotate_left
        · refine c_iff hf rfl hb59 <| c_exit <| x_then ?_
          obtain rfl := Option.some.inj hF
          exact Rnd.stops ⟨_, hw, hf.sub ⟨rfl, rfl, rfl, rfl, rfl, rfl, trivial⟩, o1, o5⟩
        refine c_ift hf rfl hb59 <| c_skip <| n_then <| c_seq <| c_block <| c_seq <| c_region ?_
        refine s_ hf (r_move hf rfl) fun a hf => ?_
        refine s_ hf (r_assign hf rfl) fun a hf => ?_
        refine c_nt ?_
        obtain ⟨hc62, hF⟩ := of_guard hF
        obtain ⟨hc65, hF⟩ := of_guard hF
        replace hf : Fr 137 a [(0, vI a0), (5, vv5), (8, vI s18), (9, .pointer (some ((⟨g21, 0, none⟩ : Addr).add 0))), (11, vI x44), (12, vI s47), (13, vI ((w64 ((gl 0 (s48.getD (gl 0 ((s19.set s18.toNat (gl 0 s19 (w64 (s18 + x30)))).set (w64 (s18 + x30)).toNat (gl 0 s19 s18)) s47) []) s22) * x44)).tmod a0)), (14, vI s57), (99, vI ((s48.getD (gl 0 ((s19.set s18.toNat (gl 0 s19 (w64 (s18 + x30)))).set (w64 (s18 + x30)).toNat (gl 0 s19 s18)) s47) []).length : Int)), (100, vI s57)] := hf.sub ⟨rfl, rfl, rfl, rfl, rfl, rfl, rfl, rfl, rfl, rfl, trivial⟩
        refine c_drawL (h := 28) mixed (by kernel_rfl) (by kernel_rfl) (fun ρ w => Gd fI64 2 36 ρ w w0.heap.size 1 vv5 f6 ((s19.set s18.toNat (gl 0 s19 (w64 (s18 + x30)))).set (w64 (s18 + x30)).toNat (gl 0 s19 s18)) s58 ∧ Va ρ w 5 g21 3 ([vI s22])) ?_ [fun ρ w v => vv5 = v, fun ρ w v => vI s47 = v, fun ρ w v => ∃ ad60, .pointer (some (ad60.add (s47.toNat * 1))) = v ∧ (gl 0 ((s19.set s18.toNat (gl 0 s19 (w64 (s18 + x30)))).set (w64 (s18 + x30)).toNat (gl 0 s19 s18)) s47) < s58.length ∧ Ce ρ w 1 vv5 (((s19.set s18.toNat (gl 0 s19 (w64 (s18 + x30)))).set (w64 (s18 + x30)).toNat (gl 0 s19 s18)).length) ad60 (s47.toNat * 1) ([(f6 (gl 0 ((s19.set s18.toNat (gl 0 s19 (w64 (s18 + x30)))).set (w64 (s18 + x30)).toNat (gl 0 s19 s18)) s47)).1]), fun ρ w v => (f6 (gl 0 ((s19.set s18.toNat (gl 0 s19 (w64 (s18 + x30)))).set (w64 (s18 + x30)).toNat (gl 0 s19 s18)) s47)).1 = v ∧ (gl 0 ((s19.set s18.toNat (gl 0 s19 (w64 (s18 + x30)))).set (w64 (s18 + x30)).toNat (gl 0 s19 s18)) s47) < s58.length, fun ρ w v => vI s57 = v, fun ρ w v => vv5 = v, fun ρ w v => vI s47 = v, fun ρ w v => ∃ ad61, .pointer (some (ad61.add (s47.toNat * 1))) = v ∧ (gl 0 ((s19.set s18.toNat (gl 0 s19 (w64 (s18 + x30)))).set (w64 (s18 + x30)).toNat (gl 0 s19 s18)) s47) < s58.length ∧ Ce ρ w 1 vv5 (((s19.set s18.toNat (gl 0 s19 (w64 (s18 + x30)))).set (w64 (s18 + x30)).toNat (gl 0 s19 s18)).length) ad61 (s47.toNat * 1) ([(f6 (gl 0 ((s19.set s18.toNat (gl 0 s19 (w64 (s18 + x30)))).set (w64 (s18 + x30)).toNat (gl 0 s19 s18)) s47)).1]), fun ρ w v => (f6 (gl 0 ((s19.set s18.toNat (gl 0 s19 (w64 (s18 + x30)))).set (w64 (s18 + x30)).toNat (gl 0 s19 s18)) s47)).1 = v ∧ (gl 0 ((s19.set s18.toNat (gl 0 s19 (w64 (s18 + x30)))).set (w64 (s18 + x30)).toNat (gl 0 s19 s18)) s47) < s58.length, fun ρ w v => vI s57 = v, fun ρ w v => ∃ ad63, .pointer (some (ad63.add (s57.toNat * 1))) = v ∧ Ce ρ w (lab 1 (gl 0 ((s19.set s18.toNat (gl 0 s19 (w64 (s18 + x30)))).set (w64 (s18 + x30)).toNat (gl 0 s19 s18)) s47)) ((f6 (gl 0 ((s19.set s18.toNat (gl 0 s19 (w64 (s18 + x30)))).set (w64 (s18 + x30)).toNat (gl 0 s19 s18)) s47)).1) ((s58.getD (gl 0 ((s19.set s18.toNat (gl 0 s19 (w64 (s18 + x30)))).set (w64 (s18 + x30)).toNat (gl 0 s19 s18)) s47) []).length) ad63 (s57.toNat * 1) (fI64.enc (gl 0 (s58.getD (gl 0 ((s19.set s18.toNat (gl 0 s19 (w64 (s18 + x30)))).set (w64 (s18 + x30)).toNat (gl 0 s19 s18)) s47) []) s57)), fun ρ w v => vI (gl 0 (s58.getD (gl 0 ((s19.set s18.toNat (gl 0 s19 (w64 (s18 + x30)))).set (w64 (s18 + x30)).toNat (gl 0 s19 s18)) s47) []) s57) = v, fun ρ w v => vI ((w64 ((gl 0 (s48.getD (gl 0 ((s19.set s18.toNat (gl 0 s19 (w64 (s18 + x30)))).set (w64 (s18 + x30)).toNat (gl 0 s19 s18)) s47) []) s22) * x44)).tmod a0) = v, fun ρ w v => vv5 = v, fun ρ w v => vI s18 = v, fun ρ w v => ∃ ad64, .pointer (some (ad64.add (s18.toNat * 1))) = v ∧ (gl 0 ((s19.set s18.toNat (gl 0 s19 (w64 (s18 + x30)))).set (w64 (s18 + x30)).toNat (gl 0 s19 s18)) s18) < s58.length ∧ Ce ρ w 1 vv5 (((s19.set s18.toNat (gl 0 s19 (w64 (s18 + x30)))).set (w64 (s18 + x30)).toNat (gl 0 s19 s18)).length) ad64 (s18.toNat * 1) ([(f6 (gl 0 ((s19.set s18.toNat (gl 0 s19 (w64 (s18 + x30)))).set (w64 (s18 + x30)).toNat (gl 0 s19 s18)) s18)).1]), fun ρ w v => (f6 (gl 0 ((s19.set s18.toNat (gl 0 s19 (w64 (s18 + x30)))).set (w64 (s18 + x30)).toNat (gl 0 s19 s18)) s18)).1 = v ∧ (gl 0 ((s19.set s18.toNat (gl 0 s19 (w64 (s18 + x30)))).set (w64 (s18 + x30)).toNat (gl 0 s19 s18)) s18) < s58.length, fun ρ w v => vI s57 = v, fun ρ w v => ∃ ad66, .pointer (some (ad66.add (s57.toNat * 1))) = v ∧ Ce ρ w (lab 1 (gl 0 ((s19.set s18.toNat (gl 0 s19 (w64 (s18 + x30)))).set (w64 (s18 + x30)).toNat (gl 0 s19 s18)) s18)) ((f6 (gl 0 ((s19.set s18.toNat (gl 0 s19 (w64 (s18 + x30)))).set (w64 (s18 + x30)).toNat (gl 0 s19 s18)) s18)).1) ((s58.getD (gl 0 ((s19.set s18.toNat (gl 0 s19 (w64 (s18 + x30)))).set (w64 (s18 + x30)).toNat (gl 0 s19 s18)) s18) []).length) ad66 (s57.toNat * 1) (fI64.enc (gl 0 (s58.getD (gl 0 ((s19.set s18.toNat (gl 0 s19 (w64 (s18 + x30)))).set (w64 (s18 + x30)).toNat (gl 0 s19 s18)) s18) []) s57)), fun ρ w v => vI (gl 0 (s58.getD (gl 0 ((s19.set s18.toNat (gl 0 s19 (w64 (s18 + x30)))).set (w64 (s18 + x30)).toNat (gl 0 s19 s18)) s18) []) s57) = v, fun ρ w v => vI (w64 (((w64 ((gl 0 (s48.getD (gl 0 ((s19.set s18.toNat (gl 0 s19 (w64 (s18 + x30)))).set (w64 (s18 + x30)).toNat (gl 0 s19 s18)) s47) []) s22) * x44)).tmod a0) * (gl 0 (s58.getD (gl 0 ((s19.set s18.toNat (gl 0 s19 (w64 (s18 + x30)))).set (w64 (s18 + x30)).toNat (gl 0 s19 s18)) s18) []) s57))) = v, fun ρ w v => vI (w64 ((gl 0 (s58.getD (gl 0 ((s19.set s18.toNat (gl 0 s19 (w64 (s18 + x30)))).set (w64 (s18 + x30)).toNat (gl 0 s19 s18)) s47) []) s57) - (w64 (((w64 ((gl 0 (s48.getD (gl 0 ((s19.set s18.toNat (gl 0 s19 (w64 (s18 + x30)))).set (w64 (s18 + x30)).toNat (gl 0 s19 s18)) s47) []) s22) * x44)).tmod a0) * (gl 0 (s58.getD (gl 0 ((s19.set s18.toNat (gl 0 s19 (w64 (s18 + x30)))).set (w64 (s18 + x30)).toNat (gl 0 s19 s18)) s18) []) s57))))) = v, fun ρ w v => vI a0 = v, fun ρ w v => vI ((w64 ((gl 0 (s58.getD (gl 0 ((s19.set s18.toNat (gl 0 s19 (w64 (s18 + x30)))).set (w64 (s18 + x30)).toNat (gl 0 s19 s18)) s47) []) s57) - (w64 (((w64 ((gl 0 (s48.getD (gl 0 ((s19.set s18.toNat (gl 0 s19 (w64 (s18 + x30)))).set (w64 (s18 + x30)).toNat (gl 0 s19 s18)) s47) []) s22) * x44)).tmod a0) * (gl 0 (s58.getD (gl 0 ((s19.set s18.toNat (gl 0 s19 (w64 (s18 + x30)))).set (w64 (s18 + x30)).toNat (gl 0 s19 s18)) s18) []) s57))))).tmod a0) = v, fun ρ w v => vI a0 = v, fun ρ w v => vI (w64 (((w64 ((gl 0 (s58.getD (gl 0 ((s19.set s18.toNat (gl 0 s19 (w64 (s18 + x30)))).set (w64 (s18 + x30)).toNat (gl 0 s19 s18)) s47) []) s57) - (w64 (((w64 ((gl 0 (s48.getD (gl 0 ((s19.set s18.toNat (gl 0 s19 (w64 (s18 + x30)))).set (w64 (s18 + x30)).toNat (gl 0 s19 s18)) s47) []) s22) * x44)).tmod a0) * (gl 0 (s58.getD (gl 0 ((s19.set s18.toNat (gl 0 s19 (w64 (s18 + x30)))).set (w64 (s18 + x30)).toNat (gl 0 s19 s18)) s18) []) s57))))).tmod a0) + a0)) = v, fun ρ w v => vI a0 = v, fun ρ w v => vI ((w64 (((w64 ((gl 0 (s58.getD (gl 0 ((s19.set s18.toNat (gl 0 s19 (w64 (s18 + x30)))).set (w64 (s18 + x30)).toNat (gl 0 s19 s18)) s47) []) s57) - (w64 (((w64 ((gl 0 (s48.getD (gl 0 ((s19.set s18.toNat (gl 0 s19 (w64 (s18 + x30)))).set (w64 (s18 + x30)).toNat (gl 0 s19 s18)) s47) []) s22) * x44)).tmod a0) * (gl 0 (s58.getD (gl 0 ((s19.set s18.toNat (gl 0 s19 (w64 (s18 + x30)))).set (w64 (s18 + x30)).toNat (gl 0 s19 s18)) s18) []) s57))))).tmod a0) + a0)).tmod a0) = v] ?_ hw ⟨o1, o5⟩ hf ?_ ?_
        · intro ρ w ρ' w' hE hG
          obtain ⟨o1, o5⟩ := hG
          exact ⟨o1.ext hE, o5.ext hE⟩
        · exact LastsL.cons (fun _ _ _ _ _ _ h => h) <| LastsL.cons (fun _ _ _ _ _ _ h => h) <| LastsL.cons (fun _ _ _ _ _ hE h => by obtain ⟨ad60, h, hn60, hl60⟩ := h; exact ⟨_, h, hn60, hl60.ext hE⟩) <| LastsL.cons (fun _ _ _ _ _ hE h => by obtain ⟨h, hn60⟩ := h; exact ⟨h, hn60⟩) <| LastsL.cons (fun _ _ _ _ _ _ h => h) <| LastsL.cons (fun _ _ _ _ _ _ h => h) <| LastsL.cons (fun _ _ _ _ _ _ h => h) <| LastsL.cons (fun _ _ _ _ _ hE h => by obtain ⟨ad61, h, hn61, hl61⟩ := h; exact ⟨_, h, hn61, hl61.ext hE⟩) <| LastsL.cons (fun _ _ _ _ _ hE h => by obtain ⟨h, hn61⟩ := h; exact ⟨h, hn61⟩) <| LastsL.cons (fun _ _ _ _ _ _ h => h) <| LastsL.cons (fun _ _ _ _ _ hE h => by obtain ⟨ad63, h, hl63⟩ := h; exact ⟨_, h, hl63.ext hE⟩) <| LastsL.cons (fun _ _ _ _ _ _ h => h) <| LastsL.cons (fun _ _ _ _ _ _ h => h) <| LastsL.cons (fun _ _ _ _ _ _ h => h) <| LastsL.cons (fun _ _ _ _ _ _ h => h) <| LastsL.cons (fun _ _ _ _ _ hE h => by obtain ⟨ad64, h, hn64, hl64⟩ := h; exact ⟨_, h, hn64, hl64.ext hE⟩) <| LastsL.cons (fun _ _ _ _ _ hE h => by obtain ⟨h, hn64⟩ := h; exact ⟨h, hn64⟩) <| LastsL.cons (fun _ _ _ _ _ _ h => h) <| LastsL.cons (fun _ _ _ _ _ hE h => by obtain ⟨ad66, h, hl66⟩ := h; exact ⟨_, h, hl66.ext hE⟩) <| LastsL.cons (fun _ _ _ _ _ _ h => h) <| LastsL.cons (fun _ _ _ _ _ _ h => h) <| LastsL.cons (fun _ _ _ _ _ _ h => h) <| LastsL.cons (fun _ _ _ _ _ _ h => h) <| LastsL.cons (fun _ _ _ _ _ _ h => h) <| LastsL.cons (fun _ _ _ _ _ _ h => h) <| LastsL.cons (fun _ _ _ _ _ _ h => h) <| LastsL.cons (fun _ _ _ _ _ _ h => h) <| LastsL.cons (fun _ _ _ _ _ _ h => h) <| LastsL.nil
        · refine StepsB.cons ?_ <| StepsB.cons ?_ <| StepsB.cons ?_ <| StepsB.cons ?_ <| StepsB.cons ?_ <| StepsB.cons ?_ <| StepsB.cons ?_ <| StepsB.cons ?_ <| StepsB.cons ?_ <| StepsB.cons ?_ <| StepsB.cons ?_ <| StepsB.cons ?_ <| StepsB.cons ?_ <| StepsB.cons ?_ <| StepsB.cons ?_ <| StepsB.cons ?_ <| StepsB.cons ?_ <| StepsB.cons ?_ <| StepsB.cons ?_ <| StepsB.cons ?_ <| StepsB.cons ?_ <| StepsB.cons ?_ <| StepsB.cons ?_ <| StepsB.cons ?_ <| StepsB.cons ?_ <| StepsB.cons ?_ <| StepsB.cons ?_ <| StepsB.cons ?_ <| StepsB.nil
          · intro ρ w a hw hG hf hd K hK
            obtain ⟨o1, o5⟩ := hG
            exact dv_ hK hw (wn rfl) (r_move hf rfl) rfl
          · intro ρ w a hw hG hf hd K hK
            obtain ⟨o1, o5⟩ := hG
            exact dv_ hK hw (wn rfl) (r_move hf rfl) rfl
          · intro ρ w a hw hG hf hd K hK
            obtain ⟨o1, o5⟩ := hG
            obtain ⟨_, hf, rfl⟩ := got (hd 0 (by kernel_rfl)) hf
            obtain ⟨_, hf, rfl⟩ := got (hd 1 (by kernel_rfl)) hf
            obtain ⟨ad60, hl60⟩ := Ow.ce (d := fRef f6) o1.out 0 hc50.1 hc50.2
            have hn60 := o1.lt_gl hc50.1 hc50.2
            exact dv_ hK hw (wn rfl) (r_idx Try.underlying24 sz36 hf rfl hl60.at_ rfl hc50.1 hc50.2) (ex_ <| an_ rfl <| an_ hn60 <| hl60)
          · intro ρ w a hw hG hf hd K hK
            obtain ⟨o1, o5⟩ := hG
            obtain ⟨_, hf, ⟨ad60, rfl, hn60, hl60⟩⟩ := got (hd 2 (by kernel_rfl)) hf
            exact dv_ hK hw (wn rfl) (r_load_cell ty36 hf rfl hl60.co.cl) (an_ rfl <| hn60)
          · intro ρ w a hw hG hf hd K hK
            obtain ⟨o1, o5⟩ := hG
            exact dv_ hK hw (wn rfl) (r_move hf rfl) rfl
          · intro ρ w a hw hG hf hd K hK
            obtain ⟨o1, o5⟩ := hG
            exact dv_ hK hw (wn rfl) (r_move hf rfl) rfl
          · intro ρ w a hw hG hf hd K hK
            obtain ⟨o1, o5⟩ := hG
            exact dv_ hK hw (wn rfl) (r_move hf rfl) rfl
          · intro ρ w a hw hG hf hd K hK
            obtain ⟨o1, o5⟩ := hG
            obtain ⟨_, hf, rfl⟩ := got (hd 5 (by kernel_rfl)) hf
            obtain ⟨_, hf, rfl⟩ := got (hd 6 (by kernel_rfl)) hf
            obtain ⟨ad61, hl61⟩ := Ow.ce (d := fRef f6) o1.out 0 hc50.1 hc50.2
            have hn61 := o1.lt_gl hc50.1 hc50.2
            exact dv_ hK hw (wn rfl) (r_idx Try.underlying24 sz36 hf rfl hl61.at_ rfl hc50.1 hc50.2) (ex_ <| an_ rfl <| an_ hn61 <| hl61)
          · intro ρ w a hw hG hf hd K hK
            obtain ⟨o1, o5⟩ := hG
            obtain ⟨_, hf, ⟨ad61, rfl, hn61, hl61⟩⟩ := got (hd 7 (by kernel_rfl)) hf
            exact dv_ hK hw (wn rfl) (r_load_cell ty36 hf rfl hl61.co.cl) (an_ rfl <| hn61)
          · intro ρ w a hw hG hf hd K hK
            obtain ⟨o1, o5⟩ := hG
            exact dv_ hK hw (wn rfl) (r_move hf rfl) rfl
          · intro ρ w a hw hG hf hd K hK
            obtain ⟨o1, o5⟩ := hG
            obtain ⟨_, hf, ⟨rfl, hn61⟩⟩ := got (hd 8 (by kernel_rfl)) hf
            obtain ⟨_, hf, rfl⟩ := got (hd 9 (by kernel_rfl)) hf
            obtain ⟨ad63, hl63⟩ := Ow.ce (d := fI64) (o1.rowAt hn61) 0 hc62.1 hc62.2
            exact dv_ hK hw (wn rfl) (r_idx Try.underlying36 sz2 hf rfl hl63.at_ rfl hc62.1 hc62.2) (ex_ <| an_ rfl <| hl63)
          · intro ρ w a hw hG hf hd K hK
            obtain ⟨o1, o5⟩ := hG
            obtain ⟨_, hf, ⟨ad63, rfl, hl63⟩⟩ := got (hd 10 (by kernel_rfl)) hf
            exact dv_ hK hw (wn rfl) (r_load_cell ty2 hf rfl hl63.co.cl) rfl
          · intro ρ w a hw hG hf hd K hK
            obtain ⟨o1, o5⟩ := hG
            exact dv_ hK hw (wn rfl) (r_move hf rfl) rfl
          · intro ρ w a hw hG hf hd K hK
            obtain ⟨o1, o5⟩ := hG
            exact dv_ hK hw (wn rfl) (r_move hf rfl) rfl
          · intro ρ w a hw hG hf hd K hK
            obtain ⟨o1, o5⟩ := hG
            exact dv_ hK hw (wn rfl) (r_move hf rfl) rfl
          · intro ρ w a hw hG hf hd K hK
            obtain ⟨o1, o5⟩ := hG
            obtain ⟨_, hf, rfl⟩ := got (hd 13 (by kernel_rfl)) hf
            obtain ⟨_, hf, rfl⟩ := got (hd 14 (by kernel_rfl)) hf
            obtain ⟨ad64, hl64⟩ := Ow.ce (d := fRef f6) o1.out 0 hc40.1 hc40.2
            have hn64 := o1.lt_gl hc40.1 hc40.2
            exact dv_ hK hw (wn rfl) (r_idx Try.underlying24 sz36 hf rfl hl64.at_ rfl hc40.1 hc40.2) (ex_ <| an_ rfl <| an_ hn64 <| hl64)
          · intro ρ w a hw hG hf hd K hK
            obtain ⟨o1, o5⟩ := hG
            obtain ⟨_, hf, ⟨ad64, rfl, hn64, hl64⟩⟩ := got (hd 15 (by kernel_rfl)) hf
            exact dv_ hK hw (wn rfl) (r_load_cell ty36 hf rfl hl64.co.cl) (an_ rfl <| hn64)
          · intro ρ w a hw hG hf hd K hK
            obtain ⟨o1, o5⟩ := hG
            exact dv_ hK hw (wn rfl) (r_move hf rfl) rfl
          · intro ρ w a hw hG hf hd K hK
            obtain ⟨o1, o5⟩ := hG
            obtain ⟨_, hf, ⟨rfl, hn64⟩⟩ := got (hd 16 (by kernel_rfl)) hf
            obtain ⟨_, hf, rfl⟩ := got (hd 17 (by kernel_rfl)) hf
            obtain ⟨ad66, hl66⟩ := Ow.ce (d := fI64) (o1.rowAt hn64) 0 hc65.1 hc65.2
            exact dv_ hK hw (wn rfl) (r_idx Try.underlying36 sz2 hf rfl hl66.at_ rfl hc65.1 hc65.2) (ex_ <| an_ rfl <| hl66)
          · intro ρ w a hw hG hf hd K hK
            obtain ⟨o1, o5⟩ := hG
            obtain ⟨_, hf, ⟨ad66, rfl, hl66⟩⟩ := got (hd 18 (by kernel_rfl)) hf
            exact dv_ hK hw (wn rfl) (r_load_cell ty2 hf rfl hl66.co.cl) rfl
          · intro ρ w a hw hG hf hd K hK
            obtain ⟨o1, o5⟩ := hG
            obtain ⟨_, hf, rfl⟩ := got (hd 12 (by kernel_rfl)) hf
            obtain ⟨_, hf, rfl⟩ := got (hd 19 (by kernel_rfl)) hf
            exact dv_ hK hw (wn rfl) (r_mul hf rfl rfl) rfl
          · intro ρ w a hw hG hf hd K hK
            obtain ⟨o1, o5⟩ := hG
            obtain ⟨_, hf, rfl⟩ := got (hd 11 (by kernel_rfl)) hf
            obtain ⟨_, hf, rfl⟩ := got (hd 20 (by kernel_rfl)) hf
            exact dv_ hK hw (wn rfl) (r_sub hf rfl rfl) rfl
          · intro ρ w a hw hG hf hd K hK
            obtain ⟨o1, o5⟩ := hG
            exact dv_ hK hw (wn rfl) (r_move hf rfl) rfl
          · intro ρ w a hw hG hf hd K hK
            obtain ⟨o1, o5⟩ := hG
            obtain ⟨_, hf, rfl⟩ := got (hd 21 (by kernel_rfl)) hf
            obtain ⟨_, hf, rfl⟩ := got (hd 22 (by kernel_rfl)) hf
            exact dv_ hK hw (wn rfl) (r_rem hf rfl rfl hc54) rfl
          · intro ρ w a hw hG hf hd K hK
            obtain ⟨o1, o5⟩ := hG
            exact dv_ hK hw (wn rfl) (r_move hf rfl) rfl
          · intro ρ w a hw hG hf hd K hK
            obtain ⟨o1, o5⟩ := hG
            obtain ⟨_, hf, rfl⟩ := got (hd 23 (by kernel_rfl)) hf
            obtain ⟨_, hf, rfl⟩ := got (hd 24 (by kernel_rfl)) hf
            exact dv_ hK hw (wn rfl) (r_add hf rfl rfl) rfl
          · intro ρ w a hw hG hf hd K hK
            obtain ⟨o1, o5⟩ := hG
            exact dv_ hK hw (wn rfl) (r_move hf rfl) rfl
          · intro ρ w a hw hG hf hd K hK
            obtain ⟨o1, o5⟩ := hG
            obtain ⟨_, hf, rfl⟩ := got (hd 25 (by kernel_rfl)) hf
            obtain ⟨_, hf, rfl⟩ := got (hd 26 (by kernel_rfl)) hf
            exact dv_ hK hw (wn rfl) (r_rem hf rfl rfl hc54) rfl
        intro ρ w a hw hG hf hd
        obtain ⟨o1, o5⟩ := hG
        obtain ⟨_, hf, ⟨rfl, hn60⟩⟩ := got (hd 3 (by decide)) hf
        obtain ⟨_, hf, rfl⟩ := got (hd 4 (by decide)) hf
        obtain ⟨_, hf, rfl⟩ := got (hd 27 (by decide)) hf
        obtain ⟨ad67, hl67⟩ := Ow.ce (d := fI64) (o1.rowAt hn60) 0 hc62.1 hc62.2
        refine s_ hf (r_idx Try.underlying36 sz2 hf rfl hl67.at_ rfl hc62.1 hc62.2) fun a hf => ?_
        refine sk_ hf (r_gcell (p := s57) (b := (w64 (((w64 ((gl 0 (s58.getD (gl 0 ((s19.set s18.toNat (gl 0 s19 (w64 (s18 + x30)))).set (w64 (s18 + x30)).toNat (gl 0 s19 s18)) s47) []) s57) - (w64 (((w64 ((gl 0 (s48.getD (gl 0 ((s19.set s18.toNat (gl 0 s19 (w64 (s18 + x30)))).set (w64 (s18 + x30)).toNat (gl 0 s19 s18)) s47) []) s22) * x44)).tmod a0) * (gl 0 (s58.getD (gl 0 ((s19.set s18.toNat (gl 0 s19 (w64 (s18 + x30)))).set (w64 (s18 + x30)).toNat (gl 0 s19 s18)) s18) []) s57))))).tmod a0) + a0)).tmod a0) 0 hw o1 hc62.1 hc62.2 (Lens.id _) hl67.at_ ty2 (by first | rfl | exact Nat.add_assoc _ _ _ | (simp only [Nat.add_assoc]; rfl)) hf rfl rfl rfl) fun a w hf hΦ => ?_
        obtain ⟨hw, hA, o1⟩ := hΦ
        replace o5 := o5.adv hA (by unfold lab; omega)
        replace hn60 : (gl 0 ((s19.set s18.toNat (gl 0 s19 (w64 (s18 + x30)))).set (w64 (s18 + x30)).toNat (gl 0 s19 s18)) s47) < (s58.set (gl 0 ((s19.set s18.toNat (gl 0 s19 (w64 (s18 + x30)))).set (w64 (s18 + x30)).toNat (gl 0 s19 s18)) s47) ((s58.getD (gl 0 ((s19.set s18.toNat (gl 0 s19 (w64 (s18 + x30)))).set (w64 (s18 + x30)).toNat (gl 0 s19 s18)) s47) []).set s57.toNat ((w64 (((w64 ((gl 0 (s58.getD (gl 0 ((s19.set s18.toNat (gl 0 s19 (w64 (s18 + x30)))).set (w64 (s18 + x30)).toNat (gl 0 s19 s18)) s47) []) s57) - (w64 (((w64 ((gl 0 (s48.getD (gl 0 ((s19.set s18.toNat (gl 0 s19 (w64 (s18 + x30)))).set (w64 (s18 + x30)).toNat (gl 0 s19 s18)) s47) []) s22) * x44)).tmod a0) * (gl 0 (s58.getD (gl 0 ((s19.set s18.toNat (gl 0 s19 (w64 (s18 + x30)))).set (w64 (s18 + x30)).toNat (gl 0 s19 s18)) s18) []) s57))))).tmod a0) + a0)).tmod a0))).length := by simp only [List.length_append, List.length_set]; omega
        refine c_nil <| n_block <| n_then <| c_region ?_
        refine s_ hf (r_add hf rfl rfl) fun a hf => ?_
        refine s_ hf (r_move hf rfl) fun a hf => ?_
        refine c_nil ?_
        obtain rfl := Option.some.inj hF
        exact Rnd.goes ⟨_, hw, hf.sub ⟨rfl, rfl, rfl, rfl, rfl, rfl, rfl, rfl, rfl, trivial⟩, o1, o5⟩
      rintro ⟨s57, s58⟩ a w hs ⟨ρ, hw, hf, o1, o5⟩
      subst hs
      have hF := hG56
      dsimp only at hF
      refine x_block <| n_block <| n_then <| c_region ?_
      refine s_ hf (r_move hf rfl) fun a hf => ?_
      refine s_ hf (r_add hf rfl rfl) fun a hf => ?_
      refine s_ hf (r_assign hf rfl) fun a hf => ?_
      refine c_nil ?_
      obtain rfl := Option.some.inj hF
      exact Rnd.goes ⟨_, hw, hf.sub ⟨rfl, rfl, rfl, rfl, rfl, rfl, trivial⟩, o1, o5⟩
    rintro ⟨s47, s48⟩ a w hs ⟨ρ, hw, hf, o1, o5⟩
    subst hs
    have hF := hG46
    dsimp only at hF
    refine x_block <| n_then <| c_region ?_
    refine s_ hf (r_move hf rfl) fun a hf => ?_
    refine s_ hf (r_add hf rfl rfl) fun a hf => ?_
    refine s_ hf (r_assign hf rfl) fun a hf => ?_
    refine c_nil <| n_block <| n_then <| c_seq <| c_seq <| c_region ?_
    refine s_ hf (r_load_cell ty3 hf rfl o5.cl) fun a hf => ?_
    refine c_nt <| c_region ?_
    refine sx_ hf (r_alloc (cs := [vI 0]) 37 ze3 rfl hw) fun a v w hf hΦ => ?_
    obtain ⟨g37, ρ, rfl, hw, hE, o37⟩ := hΦ
    replace o1 := o1.ext hE
    replace o5 := o5.ext hE
    refine sk_ hf (r_store_w (cs' := [vI s22]) hw o37 (by decide) ty3 rfl rfl (one_one rfl) hf rfl rfl rfl) fun a w hf hΦ => ?_
    obtain ⟨hw, hA, o37⟩ := hΦ
    replace o1 := o1.adv hA (by decide) (fun _ => by unfold lab; omega)
    replace o5 := o5.adv hA (by decide)
    refine c_nt <| c_region ?_
    refine s_ hf (r_load_cell ty3 hf rfl o37.cl) fun a hf => ?_
    refine s_ hf (r_add hf rfl rfl) fun a hf => ?_
    refine sk_ hf (r_store_w (cs' := [vI (w64 (s22 + 1))]) hw o37 (by decide) ty3 rfl rfl (one_one rfl) hf rfl rfl rfl) fun a w hf hΦ => ?_
    obtain ⟨hw, hA, o37⟩ := hΦ
    replace o1 := o1.adv hA (by decide) (fun _ => by unfold lab; omega)
    replace o5 := o5.adv hA (by decide)
    refine c_nil ?_
    obtain rfl := Option.some.inj hF
    replace o1 := o1.tr (Tr.relab (j := 37) (b := 5) (by decide)) (fun _ => Tr.relab (by unfold lab; omega))
    replace o37 := o37.relab 5
    replace hw := hw.relab (j := 37) (by decide) 5
    exact Rnd.goes ⟨_, _, hw, hf.sub ⟨rfl, rfl, rfl, rfl, trivial⟩, o1, o37⟩
  rintro ⟨s18, s19, s20, s22⟩ a w hs ⟨ρ, hw, hf⟩
  subst hs
  have hF := hG17
  dsimp only at hF
  refine x_block <| n_then <| c_seq <| c_region ?_
  refine s_ hf (r_move hf rfl) fun a hf => ?_
  refine s_ hf (r_assign hf rfl) fun a hf => ?_
  refine c_nt <| c_retc ?_
  obtain rfl := Option.some.inj hF
  refine c_ret hf (res_tmp Try.results106 hf rfl) ?_
  exact ⟨_, rfl, hw.below, rfl⟩
/-! f150snil -/
noncomputable def slices_Grow_150_fnil (a1 : Int) : Option (List Int) :=
  if (decide (a1 < 0)) = true then (none) else (if (decide (0 < (w64 (a1 - (w64 (0 - (([] : List Int).length : Int))))))) = true then (if 0 < w64 (a1 - (w64 (0 - (([] : List Int).length : Int)))) ∧ (w64 (a1 - (w64 (0 - (([] : List Int).length : Int))))).toNat * 8 ≤ 140737488355328 then (if (0 : Int) ≤ (([] : List Int).length : Int) ∧ (([] : List Int).length : Int) ≤ ((List.replicate (w64 (a1 - (w64 (0 - (([] : List Int).length : Int))))).toNat (0 : Int)).length : Int) then (some (((List.replicate (w64 (a1 - (w64 (0 - (([] : List Int).length : Int))))).toNat (0 : Int)).take (([] : List Int).length : Int).toNat))) else none) else none) else (some (([] : List Int))))
theorem slices_Grow_150_fnil_ok {w0 : World} {a1 : Int}   {r : List Int} (hF : slices_Grow_150_fnil a1 = some r) :
    Calls Try.prog 150 [.slice none 0 0, vI a1].toArray w0 fun e w => ∃ v, e = .returned v ∧ Below w0.heap.size w0 w ∧ ∃ u0, u0 = v ∧ Fresh (kf fI64) 2 w0 w u0 r := by
  refine calls_of (k := 27) Try.func150 rfl rfl (Nat.le_of_ble_eq_true rfl) fun a hf => ?_
  replace hf : Fr 27 a [(0, (.slice none 0 0)), (1, vI a1)] := hf
  refine c_start fun w ρ hw => ?_
  unfold slices_Grow_150_fnil at hF
  have o1 : O2 ρ w w0 1 (.slice none 0 0) [] := Ow.nil _ _ _ _ _ _
  refine c_seq <| c_region ?_
  have o2 : Ow (kf fI64) 2 ρ w w0.heap.size 2 (.slice none 0 0) [] := Ow.nil _ _ _ _ _ _
  refine s_ hf (r_assign hf rfl) fun a hf => ?_
  refine c_nt <| c_seq <| c_seq <| c_region ?_
  refine s_ hf (r_move hf rfl) fun a hf => ?_
  refine s_ hf (r_lss hf rfl rfl) fun a hf => ?_
  refine c_nt ?_
  rcases of_ite hF with ⟨hb1, hF⟩ | ⟨hb1, hF⟩
  · refine c_ift hf rfl hb1 <| c_region ?_
    cases hF
  refine c_iff hf rfl hb1 <| c_skip <| n_then <| c_seq <| c_seq <| c_region ?_
  refine s_ hf (r_move hf rfl) fun a hf => ?_
  refine s_ hf (r_move hf rfl) fun a hf => ?_
  refine s_ hf (r_cap0 Try.underlying36 hf rfl) fun a hf => ?_
  refine s_ hf (r_move hf rfl) fun a hf => ?_
  refine s_ hf (r_len Try.underlying36 o1.ro hf rfl) fun a hf => ?_
  refine s_ hf (r_sub hf rfl rfl) fun a hf => ?_
  refine s_ hf (r_sub hf rfl rfl) fun a hf => ?_
  refine s_ hf (r_assign hf rfl) fun a hf => ?_
  refine c_nt <| c_seq <| c_region ?_
  refine s_ hf (r_move hf rfl) fun a hf => ?_
  refine s_ hf (r_gtr hf rfl rfl) fun a hf => ?_
  refine c_nt ?_
  rcases of_ite hF with ⟨hb2, hF⟩ | ⟨hb2, hF⟩
  rotate_left
  · refine c_iff hf rfl hb2 <| c_skip <| n_then <| c_seq <| c_region ?_
    refine s_ hf (r_move hf rfl) fun a hf => ?_
    refine s_ hf (r_assign hf rfl) fun a hf => ?_
    refine c_nt <| c_retc ?_
    obtain rfl := Option.some.inj hF
    refine c_ret hf (res_tmp Try.results150 hf rfl) ?_
    exact ⟨_, rfl, hw.below, ⟨_, rfl, o1.out⟩⟩
  refine c_ift hf rfl hb2 <| c_region ?_
  refine s_ hf (r_move hf rfl) fun a hf => ?_
  refine s_ hf (r_move hf rfl) fun a hf => ?_
  refine s_ hf (r_cap0 Try.underlying36 hf rfl) fun a hf => ?_
  have o3 : Ow (kf fI64) 2 ρ w w0.heap.size 3 (.slice none 0 0) [] := Ow.nil _ _ _ _ _ _
  refine s_ hf (r_cut_nil Try.underlying36 sz2 hf rfl rfl) fun a hf => ?_
  refine s_ hf (r_move hf rfl) fun a hf => ?_
  obtain ⟨hc3, hF⟩ := of_guard hF
  refine sx_ hf (r_app_mk (d := fI64) (z0 := 0) 4 Try.underlying36 Try.underlying3 el2 rfl hw hf rfl rfl hc3.1 hc3.2) fun a v4 w hf hΦ => ?_
  obtain ⟨ρ, hw, hE, o4⟩ := hΦ
  replace o1 := o1.ext hE
  replace o2 := o2.ext hE
  replace o3 := o3.ext hE
  refine s_ hf (r_move hf rfl) fun a hf => ?_
  refine s_ hf (r_len Try.underlying36 o1.ro hf rfl) fun a hf => ?_
  obtain ⟨hc4, hF⟩ := of_guard hF
  refine s_ hf (r_cut_v (lo := 0) (hi := (([] : List Int).length : Int)) Try.underlying36 sz2 rfl o4.ro hf rfl (.inl ⟨rfl, rfl⟩) (.inr ⟨_, rfl, rfl⟩) (Int.le_refl 0) hc4.1 hc4.2) fun a hf => ?_
  replace o4 : Ow (kf fI64) 2 ρ w w0.heap.size 4 (cutV v4 0 (([] : List Int).length : Int).toNat 1) ((List.replicate (w64 (a1 - (w64 (0 - (([] : List Int).length : Int))))).toNat (0 : Int)).take (([] : List Int).length : Int).toNat) := Ow.take o4 (Int.le_trans (Int.le_refl 0) hc4.1) hc4.2 1
  refine s_ hf (r_assign hf rfl) fun a hf => ?_
  refine c_nt <| c_seq <| c_region ?_
  refine s_ hf (r_move hf rfl) fun a hf => ?_
  refine s_ hf (r_assign hf rfl) fun a hf => ?_
  refine c_nt <| c_retc ?_
  obtain rfl := Option.some.inj hF
  refine c_ret hf (res_tmp Try.results150 hf rfl) ?_
  exact ⟨_, rfl, hw.below, ⟨_, rfl, o4.out⟩⟩
/-! f107 -/
noncomputable def slices_Concat_107_l1 (a0 : List (List Int)) (s2 : Int) (s3 : Int) : Option (LR (Int × Int) (List Int)) :=
  if (decide (s3 < (a0.length : Int))) = true then (if 0 ≤ s3 ∧ s3 < (a0.length : Int) then (if (decide ((w64 (s2 + ((gl [] a0 s3).length : Int))) < 0)) = true then (none) else (some (.next (w64 (s2 + ((gl [] a0 s3).length : Int)), w64 (s3 + 1))))) else none) else (some (.stop (s2, s3)))
noncomputable def slices_Concat_107_l12 (a0 : List (List Int)) (s13 : Int) (s14 : List Int) : Option (LR (Int × (List Int)) (List Int)) :=
  if (decide (s13 < (a0.length : Int))) = true then (if 0 ≤ s13 ∧ s13 < (a0.length : Int) then (if (s14.length + (gl [] a0 s13).length) * 8 ≤ 140737488355328 then (some (.next (w64 (s13 + 1), (s14 ++ gl [] a0 s13)))) else none) else none) else (some (.stop (s13, s14)))
noncomputable def slices_Concat_107 (a0 : List (List Int)) : Option (List Int) :=
  (iter (fun s => slices_Concat_107_l1 a0 s.1 s.2) (0, 0)).bind fun o => match o with | .stop (s2, s3) => ((slices_Grow_150_fnil s2).bind fun x8 => (iter (fun s => slices_Concat_107_l12 a0 s.1 s.2) (0, x8)).bind fun o => match o with | .stop (s13, s14) => (some (s14)) | .ret r => some r | .next _ => none) | .ret r => some r | .next _ => none
theorem slices_Concat_107_ok {w0 : World} {a0 : List (List Int)} {va0 : Value} (h0 : Ro (Kd.slice 2 (kf fI64)) w0 va0 a0) {r : List Int} (hF : slices_Concat_107 a0 = some r) :
    Calls Try.prog 107 [va0].toArray w0 fun e w => ∃ v, e = .returned v ∧ Below w0.heap.size w0 w ∧ ∃ u0, u0 = v ∧ Fresh (kf fI64) 2 w0 w u0 r := by
  refine calls_of (k := 36) Try.func107 rfl rfl (Nat.le_of_ble_eq_true rfl) fun a hf => ?_
  replace hf : Fr 36 a [(0, va0)] := hf
  refine c_start fun w ρ hw => ?_
  unfold slices_Concat_107 at hF
  refine c_seq <| c_region ?_
  have o1 : Ow (kf fI64) 2 ρ w w0.heap.size 1 (.slice none 0 0) [] := Ow.nil _ _ _ _ _ _
  refine s_ hf (r_assign hf rfl) fun a hf => ?_
  refine c_nt <| c_seq <| c_region ?_
  refine s_ hf (r_assign hf rfl) fun a hf => ?_
  refine c_nt <| c_seq <| c_seq <| c_region ?_
  refine s_ hf (r_move hf rfl) fun a hf => ?_
  refine s_ hf (r_len Try.underlying24 (h0.now hw) hf rfl) fun a hf => ?_
  refine s_ hf (r_move hf rfl) fun a hf => ?_
  refine c_nt ?_
  obtain ⟨ol1, ho1, hG1⟩ := of_bind hF
  clear hF
  refine c_block (c_loop (id := 0) (fun s => slices_Concat_107_l1 a0 s.1 s.2) (fun (s : Int × Int) a w => match s with | (s2, s3) => ∃ ρ, Wd w0 ρ w ∧ Fr 36 a [(0, va0), (3, vI s2), (9, va0), (10, vI (a0.length : Int)), (11, vI s3)]) (fun (s : Int × Int) a w => match s with | (s2, s3) => ∃ ρ, Wd w0 ρ w ∧ Fr 36 a [(0, va0), (3, vI s2)]) ho1 ⟨_, hw, hf.sub ⟨rfl, rfl, rfl, rfl, rfl, trivial⟩⟩ ?_ ?_)
  · rintro ⟨s2, s3⟩ lr a w ⟨ρ, hw, hf⟩ hF
    replace hF : slices_Concat_107_l1 a0 s2 s3 = some lr := hF
    unfold slices_Concat_107_l1 at hF
    refine c_seq <| c_region ?_
    refine s_ hf (r_lss hf rfl rfl) fun a hf => ?_
    refine c_nt <| c_seq ?_
    rcases of_ite hF with ⟨hb4, hF⟩ | ⟨hb4, hF⟩
    rotate_left
    · refine c_iff hf rfl hb4 <| c_exit <| x_then ?_
      obtain rfl := Option.some.inj hF
      exact Rnd.stops ⟨_, hw, hf.sub ⟨rfl, rfl, trivial⟩⟩
    refine c_ift hf rfl hb4 <| c_skip <| n_then <| c_seq <| c_block <| c_seq <| c_region ?_
    obtain ⟨hc5, hF⟩ := of_guard hF
    obtain ⟨ad6, c6, u6, he6, hl6, ho6⟩ := Ro.el_row h0 hc5.1 hc5.2
    refine s_ hf (r_idx Try.underlying24 sz36 hf rfl ⟨_, he6⟩ rfl hc5.1 hc5.2) fun a hf => ?_
    refine s_ hf (r_load_cell ty36 hf rfl (hl6.below hw.below)) fun a hf => ?_
    refine s_ hf (r_assign hf rfl) fun a hf => ?_
    refine c_nt <| c_seq <| c_region ?_
    refine s_ hf (r_move hf rfl) fun a hf => ?_
    refine s_ hf (r_move hf rfl) fun a hf => ?_
    refine s_ hf (r_len Try.underlying36 (ho6.now hw) hf rfl) fun a hf => ?_
    refine s_ hf (r_add hf rfl rfl) fun a hf => ?_
    refine s_ hf (r_assign hf rfl) fun a hf => ?_
    refine c_nt <| c_seq <| c_region ?_
    refine s_ hf (r_move hf rfl) fun a hf => ?_
    refine s_ hf (r_lss hf rfl rfl) fun a hf => ?_
    refine c_nt ?_
    rcases of_ite hF with ⟨hb7, hF⟩ | ⟨hb7, hF⟩
    · refine c_ift hf rfl hb7 <| c_region ?_
      cases hF
    refine c_iff hf rfl hb7 <| c_skip <| n_block <| n_then <| c_region ?_
    refine s_ hf (r_add hf rfl rfl) fun a hf => ?_
    refine s_ hf (r_move hf rfl) fun a hf => ?_
    refine c_nil ?_
    obtain rfl := Option.some.inj hF
    exact Rnd.goes ⟨_, hw, hf.sub ⟨rfl, rfl, rfl, rfl, rfl, trivial⟩⟩
  rintro ⟨s2, s3⟩ a w hs ⟨ρ, hw, hf⟩
  subst hs
  have hF := hG1
  dsimp only at hF
  refine x_block <| n_then <| c_seq <| c_region ?_
  refine s_ hf (r_move hf rfl) fun a hf => ?_
  obtain ⟨x8, hx9, hF⟩ := of_bind hF
  refine st_fn 2 hw hf rfl rfl (by decide) (r_fn en150 hf rfl) (slices_Grow_150_fnil_ok  hx9) fun a v w ρ hf hw hE hN hΦ => ?_
  obtain ⟨u10, rfl, hr11⟩ := hΦ
  have o2 := hN hr11
  refine s_ hf (r_assign hf rfl) fun a hf => ?_
  refine c_nt <| c_seq <| c_seq <| c_region ?_
  refine s_ hf (r_move hf rfl) fun a hf => ?_
  refine s_ hf (r_len Try.underlying24 (h0.now hw) hf rfl) fun a hf => ?_
  refine s_ hf (r_move hf rfl) fun a hf => ?_
  refine c_nt ?_
  obtain ⟨ol12, ho12, hG12⟩ := of_bind hF
  clear hF
  refine c_block (c_loop (id := 2) (fun s => slices_Concat_107_l12 a0 s.1 s.2) (fun (s : Int × (List Int)) a w => match s with | (s13, s14) => ∃ ρ vv15, Wd w0 ρ w ∧ Fr 36 a [(6, vv15), (25, va0), (26, vI (a0.length : Int)), (27, vI s13)] ∧ O2 ρ w w0 2 vv15 s14) (fun (s : Int × (List Int)) a w => match s with | (s13, s14) => ∃ ρ vv15, Wd w0 ρ w ∧ Fr 36 a [(6, vv15)] ∧ O2 ρ w w0 2 vv15 s14) ho12 ⟨_, _, hw, hf.sub ⟨rfl, rfl, rfl, rfl, trivial⟩, o2⟩ ?_ ?_)
  · rintro ⟨s13, s14⟩ lr a w ⟨ρ, vv15, hw, hf, o2⟩ hF
    replace hF : slices_Concat_107_l12 a0 s13 s14 = some lr := hF
    unfold slices_Concat_107_l12 at hF
    refine c_seq <| c_region ?_
    refine s_ hf (r_lss hf rfl rfl) fun a hf => ?_
    refine c_nt <| c_seq ?_
    rcases of_ite hF with ⟨hb16, hF⟩ | ⟨hb16, hF⟩
    rotate_left
    · refine c_iff hf rfl hb16 <| c_exit <| x_then ?_
      obtain rfl := Option.some.inj hF
      exact Rnd.stops ⟨_, _, hw, hf.sub ⟨rfl, trivial⟩, o2⟩
    refine c_ift hf rfl hb16 <| c_skip <| n_then <| c_seq <| c_block <| c_seq <| c_region ?_
    obtain ⟨hc17, hF⟩ := of_guard hF
    obtain ⟨ad18, c18, u18, he18, hl18, ho18⟩ := Ro.el_row h0 hc17.1 hc17.2
    refine s_ hf (r_idx Try.underlying24 sz36 hf rfl ⟨_, he18⟩ rfl hc17.1 hc17.2) fun a hf => ?_
    refine s_ hf (r_load_cell ty36 hf rfl (hl18.below hw.below)) fun a hf => ?_
    refine s_ hf (r_assign hf rfl) fun a hf => ?_
    refine c_nt <| c_region ?_
    refine s_ hf (r_move hf rfl) fun a hf => ?_
    refine s_ hf (r_move hf rfl) fun a hf => ?_
    obtain ⟨hc19, hF⟩ := of_guard hF
    refine sx_ hf (r_append Try.underlying36 el2 hw (by decide) o2 (ho18.now hw) hc19 hf rfl rfl) fun a va20 w hf hΦ => ?_
    obtain ⟨ρ, hw, hA, o2⟩ := hΦ
    refine s_ hf (r_assign hf rfl) fun a hf => ?_
    refine c_nil <| n_block <| n_then <| c_region ?_
    refine s_ hf (r_add hf rfl rfl) fun a hf => ?_
    refine s_ hf (r_move hf rfl) fun a hf => ?_
    refine c_nil ?_
    obtain rfl := Option.some.inj hF
    exact Rnd.goes ⟨_, _, hw, hf.sub ⟨rfl, rfl, rfl, rfl, trivial⟩, o2⟩
  rintro ⟨s13, s14⟩ a w hs ⟨ρ, vv15, hw, hf, o2⟩
  subst hs
  have hF := hG12
  dsimp only at hF
  refine x_block <| n_then <| c_seq <| c_region ?_
  refine s_ hf (r_move hf rfl) fun a hf => ?_
  refine s_ hf (r_assign hf rfl) fun a hf => ?_
  refine c_nt <| c_retc ?_
  obtain rfl := Option.some.inj hF
  refine c_ret hf (res_tmp Try.results107 hf rfl) ?_
  exact ⟨_, rfl, hw.below, ⟨_, rfl, o2.out⟩⟩
/-! f109 -/
noncomputable def impl_inverted_1 (a0 : List Int) (c1 : Int) : Option Bool :=
  if 0 ≤ c1 ∧ c1 < (a0.length : Int) then (some (decide ((gl 0 a0 c1) ≠ 0))) else none
theorem impl_inverted_1_ok {w0 : World} {a0 : List Int} {c1 : Int} {va0 : Value} {gc1 : Nat} (h0 : Ro (kf fI64) w0 va0 a0) (hc1 : Cl w0 ⟨gc1, 0, none⟩ 0 [vI c1]) {r : Bool} (hF : impl_inverted_1 a0 c1 = some r) :
    Calls Try.prog 109 [va0, .pointer (some ((⟨gc1, 0, none⟩ : Addr).add 0))].toArray w0 fun e w => ∃ v, e = .returned v ∧ Below w0.heap.size w0 w ∧ .bool r = v := by
  refine calls_of (k := 9) Try.func109 rfl rfl (Nat.le_of_ble_eq_true rfl) fun a hf => ?_
  replace hf : Fr 9 a [(0, va0), (1, .pointer (some ((⟨gc1, 0, none⟩ : Addr).add 0)))] := hf
  refine c_start fun w ρ hw => ?_
  unfold impl_inverted_1 at hF
  refine c_seq <| c_region ?_
  refine s_ hf (r_assign hf rfl) fun a hf => ?_
  refine c_nt <| c_seq <| c_region ?_
  refine s_ hf (r_move hf rfl) fun a hf => ?_
  refine s_ hf (r_load_cell ty3 hf rfl (hc1.below hw.below)) fun a hf => ?_
  obtain ⟨hc1, hF⟩ := of_guard hF
  obtain ⟨ad2, c2, he2, hl2⟩ := Ro.el fI64 h0 0 hc1.1 hc1.2
  refine s_ hf (r_idx Try.underlying36 sz2 hf rfl ⟨_, he2⟩ rfl hc1.1 hc1.2) fun a hf => ?_
  refine s_ hf (r_load_cell ty2 hf rfl (hl2.below hw.below)) fun a hf => ?_
  refine s_ hf (r_neq hf rfl rfl) fun a hf => ?_
  refine s_ hf (r_assign hf rfl) fun a hf => ?_
  refine c_nt <| c_retc ?_
  obtain rfl := Option.some.inj hF
  refine c_ret hf (res_tmp Try.results109 hf rfl) ?_
  exact ⟨_, rfl, hw.below, rfl⟩
/-! f108s109 -/
noncomputable def slices_IndexFunc_108_f109_l1 (a0 : List (List Int)) (c1_0 : Int) (s2 : Int) : Option (LR Int Int) :=
  if (decide (s2 < (a0.length : Int))) = true then (if 0 ≤ s2 ∧ s2 < (a0.length : Int) then ((impl_inverted_1 (gl [] a0 s2) c1_0).bind fun x6 => if x6 = true then (some (.ret s2)) else (some (.next (w64 (s2 + 1))))) else none) else (some (.stop s2))
noncomputable def slices_IndexFunc_108_f109 (a0 : List (List Int)) (c1_0 : Int) : Option Int :=
  (iter (fun s => slices_IndexFunc_108_f109_l1 a0 c1_0 s) 0).bind fun o => match o with | .stop s2 => (some ((-1))) | .ret r => some r | .next _ => none
theorem slices_IndexFunc_108_f109_ok {w0 : World} {a0 : List (List Int)} {c1_0 : Int} {va0 : Value} {gc1_0 : Nat} (h0 : Ro (Kd.slice 2 (kf fI64)) w0 va0 a0) (hc1_0 : Cl w0 ⟨gc1_0, 0, none⟩ 0 [vI c1_0]) {r : Int} (hF : slices_IndexFunc_108_f109 a0 c1_0 = some r) :
    Calls Try.prog 108 [va0, .func (.func 109) #[] #[.pointer (some ((⟨gc1_0, 0, none⟩ : Addr).add 0))]].toArray w0 fun e w => ∃ v, e = .returned v ∧ Below w0.heap.size w0 w ∧ .int .i64 r = v := by
  refine calls_of (k := 19) Try.func108 rfl rfl (Nat.le_of_ble_eq_true rfl) fun a hf => ?_
  replace hf : Fr 19 a [(0, va0), (1, .func (.func 109) #[] #[.pointer (some ((⟨gc1_0, 0, none⟩ : Addr).add 0))])] := hf
  refine c_start fun w ρ hw => ?_
  unfold slices_IndexFunc_108_f109 at hF
  refine c_seq <| c_region ?_
  refine s_ hf (r_assign hf rfl) fun a hf => ?_
  refine c_nt <| c_seq <| c_seq <| c_region ?_
  refine s_ hf (r_move hf rfl) fun a hf => ?_
  refine s_ hf (r_len Try.underlying24 (h0.now hw) hf rfl) fun a hf => ?_
  refine s_ hf (r_move hf rfl) fun a hf => ?_
  refine c_nt ?_
  obtain ⟨ol1, ho1, hG1⟩ := of_bind hF
  clear hF
  refine c_block (c_loop (id := 0) (fun s => slices_IndexFunc_108_f109_l1 a0 c1_0 s) (fun (s2 : Int) a w => ∃ ρ, Wd w0 ρ w ∧ Fr 19 a [(0, va0), (1, .func (.func 109) #[] #[.pointer (some ((⟨gc1_0, 0, none⟩ : Addr).add 0))]), (7, vI (a0.length : Int)), (8, vI s2)]) (fun (s2 : Int) a w => ∃ ρ, Wd w0 ρ w ∧ Fr 19 a []) ho1 ⟨_, hw, hf.sub ⟨rfl, rfl, rfl, rfl, trivial⟩⟩ ?_ ?_)
  · rintro s2 lr a w ⟨ρ, hw, hf⟩ hF
    replace hF : slices_IndexFunc_108_f109_l1 a0 c1_0 s2 = some lr := hF
    unfold slices_IndexFunc_108_f109_l1 at hF
    refine c_seq <| c_region ?_
    refine s_ hf (r_lss hf rfl rfl) fun a hf => ?_
    refine c_nt <| c_seq ?_
    rcases of_ite hF with ⟨hb3, hF⟩ | ⟨hb3, hF⟩
    rotate_left
    · refine c_iff hf rfl hb3 <| c_exit <| x_then ?_
      obtain rfl := Option.some.inj hF
      exact Rnd.stops ⟨_, hw, hf.sub trivial⟩
    refine c_ift hf rfl hb3 <| c_skip <| n_then <| c_seq <| c_block <| c_seq <| c_region ?_
    refine s_ hf (r_move hf rfl) fun a hf => ?_
    refine s_ hf (r_assign hf rfl) fun a hf => ?_
    refine c_nt <| c_seq <| c_region ?_
    refine s_ hf (r_move hf rfl) fun a hf => ?_
    refine s_ hf (r_move hf rfl) fun a hf => ?_
    refine s_ hf (r_move hf rfl) fun a hf => ?_
    obtain ⟨hc4, hF⟩ := of_guard hF
    obtain ⟨ad5, c5, u5, he5, hl5, ho5⟩ := Ro.el_row h0 hc4.1 hc4.2
    refine s_ hf (r_idx Try.underlying24 sz36 hf rfl ⟨_, he5⟩ rfl hc4.1 hc4.2) fun a hf => ?_
    refine s_ hf (r_load_cell ty36 hf rfl (hl5.below hw.below)) fun a hf => ?_
    obtain ⟨x6, hx7, hF⟩ := of_bind hF
    refine st_fn 1 hw hf rfl rfl (by decide) (r_fnc en109 hf rfl rfl) (impl_inverted_1_ok (ho5.now hw) (hc1_0.below hw.below) hx7) fun a v w ρ hf hw hE hN hΦ => ?_
    obtain rfl := hΦ
    refine c_nt ?_
    rcases of_ite hF with ⟨hb8, hF⟩ | ⟨hb8, hF⟩
    rotate_left
    · refine c_iff hf rfl hb8 <| c_skip <| n_block <| n_then <| c_region ?_
      refine s_ hf (r_add hf rfl rfl) fun a hf => ?_
      refine s_ hf (r_move hf rfl) fun a hf => ?_
      refine c_nil ?_
      obtain rfl := Option.some.inj hF
      exact Rnd.goes ⟨_, hw, hf.sub ⟨rfl, rfl, rfl, rfl, trivial⟩⟩
    refine c_ift hf rfl hb8 <| c_seq <| c_region ?_
    refine s_ hf (r_move hf rfl) fun a hf => ?_
    refine s_ hf (r_assign hf rfl) fun a hf => ?_
    refine c_nt <| c_retc ?_
    obtain rfl := Option.some.inj hF
    refine r_block <| r_then ?_
    refine Rnd.rets fun ho => ?_
    subst ho
    have hF := hG1
    dsimp only at hF
    obtain rfl := Option.some.inj hF
    refine r_block <| r_then <| c_ret hf (res_tmp Try.results108 hf rfl) ?_
    exact ⟨_, rfl, hw.below, rfl⟩
  rintro s2 a w hs ⟨ρ, hw, hf⟩
  subst hs
  have hF := hG1
  dsimp only at hF
  refine x_block <| n_then <| c_seq <| c_region ?_
  refine s_ hf (r_assign hf rfl) fun a hf => ?_
  refine c_nt <| c_retc ?_
  obtain rfl := Option.some.inj hF
  refine c_ret hf (res_tmp Try.results108 hf rfl) ?_
  exact ⟨_, rfl, hw.below, rfl⟩
end Go.Proofs.YtB
