/- Functions of the program as plain functions, and that they compute these. Printed by gen.py. -/
import Derived.Test.YtaaghemmkbgldaaSpG2
set_option linter.unusedVariables false
set_option linter.unusedSimpArgs false
set_option maxRecDepth 4000
set_option maxHeartbeats 1000000
namespace Go.Proofs.YtB
open Go Go.RowKit Go.Proofs Go.Proofs.YtaaghemmkbgldaaW.PrintWords
/-! f26 -/
noncomputable def impl_SplitProduct (a0 : Sch) (a1 : Int) (a2 : Int) (a3 : Form) : Option (Sch × Int) :=
  (impl_IsScheme a0).bind fun x1 => if (!x1) = true then (some (((⟨0, 0, 0, 0, ([] : List Prod)⟩ : Sch), 1))) else (((impl_isIndex a0 ([a1])).bind fun x6 => if (!x6) = true then (some true) else (if (decide (a2 < 0)) = true then (some true) else (if (decide (2 < a2)) = true then (some true) else ((impl_placesOf a0).bind fun x11 => if 0 ≤ a2 ∧ a2 < 3 then ((impl_isForm a0.p (vg 0 x11 a2) a3).bind fun x14 => some (!x14)) else none)))).bind fun (s5 : Bool) => if s5 = true then (some (((⟨0, 0, 0, 0, ([] : List Prod)⟩ : Sch), 2))) else (if 0 ≤ a1 ∧ a1 < (a0.ps.length : Int) then ((impl_factors (gl zProd a0.ps a1)).bind fun x19 => (if (decide (a3 = zForm)) = true then (some true) else (if 0 ≤ a2 ∧ a2 < 3 then (some (decide (a3 = (vg zForm x19 a2)))) else none)).bind fun (s22 : Bool) => if s22 = true then (some (((⟨0, 0, 0, 0, ([] : List Prod)⟩ : Sch), 5))) else (if (decide ((a0.ps.length : Int) = 30)) = true then (some (((⟨0, 0, 0, 0, ([] : List Prod)⟩ : Sch), 3))) else (if 0 ≤ a2 ∧ a2 < 3 then ((impl_sum a0.p (vg zForm x19 a2) a3 (w64 (a0.p - 1))).bind fun x28 => (slices_Clone_76 a0.ps).bind fun x30 => (impl_productOf (vs x19 a2 a3)).bind fun x34 => if 0 ≤ a1 ∧ a1 < (x30.length : Int) then ((impl_productOf (vs x19 a2 x28)).bind fun x38 => if ((x30.set a1.toNat x34).length + ([x38]).length) * 27 ≤ 140737488355328 then ((impl_with a0 ((x30.set a1.toNat x34) ++ [x38])).bind fun x42 => some ((x42, 0))) else none) else none) else none))) else none))
theorem impl_SplitProduct_ok {w0 : World} {a0 : Sch} {a1 : Int} {a2 : Int} {a3 : Form} {va0 : Value} (h0 : Ro (kf cProd) w0 va0 a0.ps) {r : Sch × Int} (hF : impl_SplitProduct a0 a1 a2 a3 = some r) :
    Calls Try.prog 26 [.agg ([vI a0.p, vI a0.n, vI a0.m, vI a0.k, va0]).toArray, vI a1, vI a2, .agg (cForm.enc a3).toArray].toArray w0 fun e w => ∃ v, e = .returned v ∧ Below w0.heap.size w0 w ∧ ∃ u0, .tuple #[.agg [.int .i64 r.1.p, .int .i64 r.1.n, .int .i64 r.1.m, .int .i64 r.1.k, u0].toArray, .int .i64 r.2] = v ∧ Fresh (kf cProd) 78 w0 w u0 r.1.ps := by
  refine calls_of (k := 99) Try.func26 rfl rfl (Nat.le_of_ble_eq_true rfl) fun a hf => ?_
  replace hf : Fr 99 a [(0, .agg ([vI a0.p, vI a0.n, vI a0.m, vI a0.k, va0]).toArray), (1, vI a1), (2, vI a2), (3, .agg (cForm.enc a3).toArray)] := hf
  refine c_start fun w ρ hw => ?_
  unfold impl_SplitProduct at hF
  refine c_seq <| c_region ?_
  refine sx_ hf (r_box (cs := [vI a0.p, vI a0.n, vI a0.m, vI a0.k, va0]) 1 hw hf rfl rfl) fun a v w hf hΦ => ?_
  obtain ⟨g1, ρ, rfl, hw, hE, o1⟩ := hΦ
  refine sx_ hf (r_box (cs := cForm.enc a3) 2 hw hf rfl rfl) fun a v w hf hΦ => ?_
  obtain ⟨g2, ρ, rfl, hw, hE, o2⟩ := hΦ
  replace o1 := o1.ext hE
  have o4 : Ow (kf cProd) 78 ρ w w0.heap.size 4 (.slice none 0 0) [] := Ow.nil _ _ _ _ _ _
  refine sx_ hf (r_alloc (cs := [vI 0, vI 0, vI 0, vI 0, (.slice none 0 0)]) 3 ze28 rfl hw) fun a v w hf hΦ => ?_
  obtain ⟨g3, ρ, rfl, hw, hE, o3⟩ := hΦ
  replace o1 := o1.ext hE
  replace o2 := o2.ext hE
  replace o4 := o4.ext hE
  refine s_ hf (r_assign hf rfl) fun a hf => ?_
  refine c_nt <| c_seq <| c_block <| c_seq <| c_region ?_
  refine s_ hf (r_load_agg ty28 hf rfl o1.cl rfl) fun a hf => ?_
  obtain ⟨x1, hx2, hF⟩ := of_bind hF
  refine st_fn 5 hw hf rfl rfl (by decide) (r_fn en74 hf rfl) (impl_IsScheme_ok (a0 := a0) (h0.now hw) hx2) fun a v w ρ hf hw hE hN hΦ => ?_
  obtain rfl := hΦ
  replace o1 := o1.ext hE
  replace o2 := o2.ext hE
  replace o4 := o4.ext hE
  replace o3 := o3.ext hE
  refine s_ hf (r_not hf rfl) fun a hf => ?_
  refine s_ hf (r_assign hf rfl) fun a hf => ?_
  refine c_nt ?_
  rcases of_ite hF with ⟨hb3, hF⟩ | ⟨hb3, hF⟩
  · refine c_ift hf rfl hb3 <| c_seq <| c_region ?_
    have o6 : Ow (kf cProd) 78 ρ w w0.heap.size 6 (.slice none 0 0) [] := Ow.nil _ _ _ _ _ _
    refine s_ hf (r_build_struct (pl := [(0, 1), (1, 1), (2, 1), (3, 1), (4, 1)]) (vs := []) (res := ([vI 0, vI 0, vI 0, vI 0, (.slice none 0 0)]).toArray) Try.underlying28 (by kernel_rfl) ze28 hf rfl rfl rfl) fun a hf => ?_
    refine sk_ hf (r_store_w (cs' := [vI 0, vI 0, vI 0, vI 0, (.slice none 0 0)]) hw o3 (by decide) ty28 rfl rfl (one_sch o6.ro.one) hf rfl rfl rfl) fun a w hf hΦ => ?_
    obtain ⟨hw, hA, o3⟩ := hΦ
    replace o1 := o1.adv hA (by decide)
    replace o2 := o2.adv hA (by decide)
    replace o4 := o4.adv hA (by decide)
    replace o6 := o6.adv hA (by decide)
    refine s_ hf (r_assign hf rfl) fun a hf => ?_
    refine c_nt <| c_retc ?_
    obtain rfl := Option.some.inj hF
    refine r_block <| r_then <| c_ret hf (res_ct Try.results26 ty28 hf rfl o3.cl rfl rfl) ?_
    exact ⟨_, rfl, hw.below, ⟨_, rfl, o6.out⟩⟩
  refine c_iff hf rfl hb3 <| c_seq ?_
  obtain ⟨s5, hT4, hG4⟩ := of_bind hF
  clear hF
  refine c_meet (fun (s5 : Bool) a w => ∃ ρ, Wd w0 ρ w ∧ Fr 99 a [(1, vI a1), (2, vI a2), (4, .pointer (some ((⟨g1, 0, none⟩ : Addr).add 0))), (7, .pointer (some ((⟨g2, 0, none⟩ : Addr).add 0))), (8, .pointer (some ((⟨g3, 0, none⟩ : Addr).add 0))), (18, .bool s5)] ∧ Va ρ w 1 g1 28 ([vI a0.p, vI a0.n, vI a0.m, vI a0.k, va0]) ∧ Va ρ w 2 g2 39 (cForm.enc a3) ∧ Va ρ w 3 g3 28 ([vI 0, vI 0, vI 0, vI 0, (.slice none 0 0)]) ∧ O78 ρ w w0 4 (.slice none 0 0) ([] : List Prod)) s5 ?_ ?_
  · have hF := hT4
    obtain ⟨x6, hx7, hF⟩ := of_bind hF
    rcases of_ite hF with ⟨hb8, hF⟩ | ⟨hb8, hF⟩
    · replace hf : Fr 99 a [(1, vI a1), (2, vI a2), (4, .pointer (some ((⟨g1, 0, none⟩ : Addr).add 0))), (7, .pointer (some ((⟨g2, 0, none⟩ : Addr).add 0))), (8, .pointer (some ((⟨g3, 0, none⟩ : Addr).add 0)))] := hf.sub ⟨rfl, rfl, rfl, rfl, rfl, trivial⟩
      refine c_drawL (h := 21) mixed (by kernel_rfl) (by kernel_rfl) (fun ρ w => Va ρ w 1 g1 28 ([vI a0.p, vI a0.n, vI a0.m, vI a0.k, va0]) ∧ Va ρ w 2 g2 39 (cForm.enc a3) ∧ Va ρ w 3 g3 28 ([vI 0, vI 0, vI 0, vI 0, (.slice none 0 0)]) ∧ O78 ρ w w0 4 (.slice none 0 0) ([] : List Prod)) ?_ [fun ρ w v => .agg ([vI a0.p, vI a0.n, vI a0.m, vI a0.k, va0]).toArray = v, fun ρ w v => vI a1 = v, fun ρ w v => ∃ v7, v7 = v ∧ O2 ρ w w0 7 v7 ([a1]), fun ρ w v => .bool x6 = v, fun ρ w v => .bool (!x6) = v, fun ρ w v => .bool (!x6) = v, fun ρ w v => undef = v, fun ρ w v => undef = v, fun ρ w v => .bool true = v, fun ρ w v => .bool true = v, fun ρ w v => undef = v, fun ρ w v => undef = v, fun ρ w v => .bool true = v, fun ρ w v => .bool true = v, fun ρ w v => undef = v, fun ρ w v => undef = v, fun ρ w v => undef = v, fun ρ w v => undef = v, fun ρ w v => undef = v, fun ρ w v => undef = v, fun ρ w v => undef = v] ?_ hw ⟨o1, o2, o3, o4⟩ hf ?_ ?_
      · intro ρ w ρ' w' hE hG
        obtain ⟨o1, o2, o3, o4⟩ := hG
        exact ⟨o1.ext hE, o2.ext hE, o3.ext hE, o4.ext hE⟩
      · exact LastsL.cons (fun _ _ _ _ _ _ h => h) <| LastsL.cons (fun _ _ _ _ _ _ h => h) <| LastsL.cons (fun _ _ _ _ _ hE h => by obtain ⟨v7, h, o7⟩ := h; exact ⟨_, h, o7.ext hE⟩) <| LastsL.cons (fun _ _ _ _ _ _ h => h) <| LastsL.cons (fun _ _ _ _ _ _ h => h) <| LastsL.cons (fun _ _ _ _ _ _ h => h) <| LastsL.cons (fun _ _ _ _ _ _ h => h) <| LastsL.cons (fun _ _ _ _ _ _ h => h) <| LastsL.cons (fun _ _ _ _ _ _ h => h) <| LastsL.cons (fun _ _ _ _ _ _ h => h) <| LastsL.cons (fun _ _ _ _ _ _ h => h) <| LastsL.cons (fun _ _ _ _ _ _ h => h) <| LastsL.cons (fun _ _ _ _ _ _ h => h) <| LastsL.cons (fun _ _ _ _ _ _ h => h) <| LastsL.cons (fun _ _ _ _ _ _ h => h) <| LastsL.cons (fun _ _ _ _ _ _ h => h) <| LastsL.cons (fun _ _ _ _ _ _ h => h) <| LastsL.cons (fun _ _ _ _ _ _ h => h) <| LastsL.cons (fun _ _ _ _ _ _ h => h) <| LastsL.cons (fun _ _ _ _ _ _ h => h) <| LastsL.cons (fun _ _ _ _ _ _ h => h) <| LastsL.nil
      · refine StepsB.cons ?_ <| StepsB.cons ?_ <| StepsB.cons ?_ <| StepsB.cons ?_ <| StepsB.cons ?_ <| StepsB.cons ?_ <| StepsB.cons ?_ <| StepsB.cons ?_ <| StepsB.cons ?_ <| StepsB.cons ?_ <| StepsB.cons ?_ <| StepsB.cons ?_ <| StepsB.cons ?_ <| StepsB.cons ?_ <| StepsB.cons ?_ <| StepsB.cons ?_ <| StepsB.cons ?_ <| StepsB.cons ?_ <| StepsB.cons ?_ <| StepsB.cons ?_ <| StepsB.cons ?_ <| StepsB.nil
        · intro ρ w a hw hG hf hd K hK
          obtain ⟨o1, o2, o3, o4⟩ := hG
          exact dv_ hK hw (wn rfl) (r_load_agg ty28 hf rfl o1.cl rfl) rfl
        · intro ρ w a hw hG hf hd K hK
          obtain ⟨o1, o2, o3, o4⟩ := hG
          exact dv_ hK hw (wn rfl) (r_move hf rfl) rfl
        · intro ρ w a hw hG hf hd K hK
          obtain ⟨o1, o2, o3, o4⟩ := hG
          obtain ⟨_, hf, rfl⟩ := got (hd 1 (by kernel_rfl)) hf
          refine dx_ hK hw (wn rfl) (r_lit (d := fI64) (xs := ([a1] : List Int)) (vs := [vI a1]) 7 Try.underlying61 el2 (Nat.le_of_ble_eq_true rfl) (Nat.le_of_ble_eq_true rfl) hw hf rfl rfl rfl) fun v7 w' hΦ => ?_
          obtain ⟨ρ, hw, hE, o7⟩ := hΦ
          exact ⟨_, hw, hE, ex_ <| an_ rfl <| o7⟩
        · intro ρ w a hw hG hf hd K hK
          obtain ⟨o1, o2, o3, o4⟩ := hG
          obtain ⟨_, hf, rfl⟩ := got (hd 0 (by kernel_rfl)) hf
          obtain ⟨_, hf, ⟨v7, rfl, o7⟩⟩ := got (hd 2 (by kernel_rfl)) hf
          refine dc_ hK hw (wn rfl) (r_fn en75 hf rfl) (impl_isIndex_ok (a0 := a0) (h0.now hw) o7.ro hx7) fun v w' hΦ => ?_
          obtain ⟨hb, hΦ⟩ := hΦ
          obtain rfl := hΦ
          have hE := Ext.new (ρ := ρ) 8 hb
          exact ⟨_, hw.new 8 hb, hE, rfl⟩
        · intro ρ w a hw hG hf hd K hK
          obtain ⟨o1, o2, o3, o4⟩ := hG
          obtain ⟨_, hf, rfl⟩ := got (hd 3 (by kernel_rfl)) hf
          exact dv_ hK hw (wn rfl) (r_not hf rfl) rfl
        · intro ρ w a hw hG hf hd K hK
          obtain ⟨o1, o2, o3, o4⟩ := hG
          obtain ⟨_, hf, rfl⟩ := got (hd 4 (by kernel_rfl)) hf
          exact dv_ hK hw (wn rfl) (r_move hf rfl) rfl
        · intro ρ w a hw hG hf hd K hK
          obtain ⟨o1, o2, o3, o4⟩ := hG
          obtain ⟨_, hf, rfl⟩ := got (hd 5 (by kernel_rfl)) hf
          exact do_ hK (b := true) hw hf rfl rfl rfl hb8 rfl rfl
        · intro ρ w a hw hG hf hd K hK
          obtain ⟨o1, o2, o3, o4⟩ := hG
          obtain ⟨_, hf, rfl⟩ := got (hd 5 (by kernel_rfl)) hf
          obtain ⟨_, hf, rfl⟩ := got (hd 6 (by kernel_rfl)) hf
          exact do_ hK (b := true) hw hf rfl rfl rfl hb8 rfl rfl
        · intro ρ w a hw hG hf hd K hK
          obtain ⟨o1, o2, o3, o4⟩ := hG
          obtain ⟨_, hf, rfl⟩ := got (hd 5 (by kernel_rfl)) hf
          obtain ⟨_, hf, rfl⟩ := got (hd 7 (by kernel_rfl)) hf
          exact dv_ hK hw (wn rfl) (r_pick (b := true) hf rfl hb8 rfl) rfl
        · intro ρ w a hw hG hf hd K hK
          obtain ⟨o1, o2, o3, o4⟩ := hG
          obtain ⟨_, hf, rfl⟩ := got (hd 8 (by kernel_rfl)) hf
          exact dv_ hK hw (wn rfl) (r_move hf rfl) rfl
        · intro ρ w a hw hG hf hd K hK
          obtain ⟨o1, o2, o3, o4⟩ := hG
          obtain ⟨_, hf, rfl⟩ := got (hd 9 (by kernel_rfl)) hf
          exact do_ hK (b := true) hw hf rfl rfl rfl rfl rfl rfl
        · intro ρ w a hw hG hf hd K hK
          obtain ⟨o1, o2, o3, o4⟩ := hG
          obtain ⟨_, hf, rfl⟩ := got (hd 9 (by kernel_rfl)) hf
          obtain ⟨_, hf, rfl⟩ := got (hd 10 (by kernel_rfl)) hf
          exact do_ hK (b := true) hw hf rfl rfl rfl rfl rfl rfl
        · intro ρ w a hw hG hf hd K hK
          obtain ⟨o1, o2, o3, o4⟩ := hG
          obtain ⟨_, hf, rfl⟩ := got (hd 9 (by kernel_rfl)) hf
          obtain ⟨_, hf, rfl⟩ := got (hd 11 (by kernel_rfl)) hf
          exact dv_ hK hw (wn rfl) (r_pick (b := true) hf rfl rfl rfl) rfl
        · intro ρ w a hw hG hf hd K hK
          obtain ⟨o1, o2, o3, o4⟩ := hG
          obtain ⟨_, hf, rfl⟩ := got (hd 12 (by kernel_rfl)) hf
          exact dv_ hK hw (wn rfl) (r_move hf rfl) rfl
        · intro ρ w a hw hG hf hd K hK
          obtain ⟨o1, o2, o3, o4⟩ := hG
          obtain ⟨_, hf, rfl⟩ := got (hd 13 (by kernel_rfl)) hf
          exact do_ hK (b := true) hw hf rfl rfl rfl rfl rfl rfl
        · intro ρ w a hw hG hf hd K hK
          obtain ⟨o1, o2, o3, o4⟩ := hG
          obtain ⟨_, hf, rfl⟩ := got (hd 13 (by kernel_rfl)) hf
          obtain ⟨_, hf, rfl⟩ := got (hd 14 (by kernel_rfl)) hf
          exact do_ hK (b := true) hw hf rfl rfl rfl rfl rfl rfl
        · intro ρ w a hw hG hf hd K hK
          obtain ⟨o1, o2, o3, o4⟩ := hG
          obtain ⟨_, hf, rfl⟩ := got (hd 13 (by kernel_rfl)) hf
          exact do_ hK (b := true) hw hf rfl rfl rfl rfl rfl rfl
        · intro ρ w a hw hG hf hd K hK
          obtain ⟨o1, o2, o3, o4⟩ := hG
          obtain ⟨_, hf, rfl⟩ := got (hd 13 (by kernel_rfl)) hf
          obtain ⟨_, hf, rfl⟩ := got (hd 16 (by kernel_rfl)) hf
          exact do_ hK (b := true) hw hf rfl rfl rfl rfl rfl rfl
        · intro ρ w a hw hG hf hd K hK
          obtain ⟨o1, o2, o3, o4⟩ := hG
          obtain ⟨_, hf, rfl⟩ := got (hd 13 (by kernel_rfl)) hf
          exact do_ hK (b := true) hw hf rfl rfl rfl rfl rfl rfl
        · intro ρ w a hw hG hf hd K hK
          obtain ⟨o1, o2, o3, o4⟩ := hG
          obtain ⟨_, hf, rfl⟩ := got (hd 13 (by kernel_rfl)) hf
          obtain ⟨_, hf, rfl⟩ := got (hd 17 (by kernel_rfl)) hf
          obtain ⟨_, hf, rfl⟩ := got (hd 18 (by kernel_rfl)) hf
          exact do_ hK (b := true) hw hf rfl rfl rfl rfl rfl rfl
        · intro ρ w a hw hG hf hd K hK
          obtain ⟨o1, o2, o3, o4⟩ := hG
          obtain ⟨_, hf, rfl⟩ := got (hd 13 (by kernel_rfl)) hf
          exact do_ hK (b := true) hw hf rfl rfl rfl rfl rfl rfl
      intro ρ w a hw hG hf hd
      obtain ⟨o1, o2, o3, o4⟩ := hG
      obtain ⟨_, hf, rfl⟩ := got (hd 13 (by decide)) hf
      obtain ⟨_, hf, rfl⟩ := got (hd 15 (by decide)) hf
      obtain ⟨_, hf, rfl⟩ := got (hd 19 (by decide)) hf
      obtain ⟨_, hf, rfl⟩ := got (hd 20 (by decide)) hf
      refine st_no (b := true) hf rfl rfl rfl rfl rfl (by decide) fun a hf => ?_
      refine st_no (b := true) hf rfl rfl rfl rfl rfl (by decide) fun a hf => ?_
      refine s_ hf (r_pick (b := true) hf rfl rfl rfl) fun a hf => ?_
      refine s_ hf (r_assign hf rfl) fun a hf => ?_
      refine c_nil ⟨rfl, ?_⟩
      obtain rfl := Option.some.inj hF
      exact ⟨_, hw, hf.sub ⟨rfl, rfl, rfl, rfl, rfl, rfl, trivial⟩, o1, o2, o3, o4⟩
    rcases of_ite hF with ⟨hb9, hF⟩ | ⟨hb9, hF⟩
    · replace hf : Fr 99 a [(1, vI a1), (2, vI a2), (4, .pointer (some ((⟨g1, 0, none⟩ : Addr).add 0))), (7, .pointer (some ((⟨g2, 0, none⟩ : Addr).add 0))), (8, .pointer (some ((⟨g3, 0, none⟩ : Addr).add 0)))] := hf.sub ⟨rfl, rfl, rfl, rfl, rfl, trivial⟩
      refine c_drawL (h := 21) mixed (by kernel_rfl) (by kernel_rfl) (fun ρ w => Va ρ w 1 g1 28 ([vI a0.p, vI a0.n, vI a0.m, vI a0.k, va0]) ∧ Va ρ w 2 g2 39 (cForm.enc a3) ∧ Va ρ w 3 g3 28 ([vI 0, vI 0, vI 0, vI 0, (.slice none 0 0)]) ∧ O78 ρ w w0 4 (.slice none 0 0) ([] : List Prod)) ?_ [fun ρ w v => .agg ([vI a0.p, vI a0.n, vI a0.m, vI a0.k, va0]).toArray = v, fun ρ w v => vI a1 = v, fun ρ w v => ∃ v7, v7 = v ∧ O2 ρ w w0 7 v7 ([a1]), fun ρ w v => .bool x6 = v, fun ρ w v => .bool (!x6) = v, fun ρ w v => .bool (!x6) = v, fun ρ w v => vI a2 = v, fun ρ w v => .bool (decide (a2 < 0)) = v, fun ρ w v => .bool (decide (a2 < 0)) = v, fun ρ w v => .bool (decide (a2 < 0)) = v, fun ρ w v => undef = v, fun ρ w v => undef = v, fun ρ w v => .bool true = v, fun ρ w v => .bool true = v, fun ρ w v => undef = v, fun ρ w v => undef = v, fun ρ w v => undef = v, fun ρ w v => undef = v, fun ρ w v => undef = v, fun ρ w v => undef = v, fun ρ w v => undef = v] ?_ hw ⟨o1, o2, o3, o4⟩ hf ?_ ?_
      · intro ρ w ρ' w' hE hG
        obtain ⟨o1, o2, o3, o4⟩ := hG
        exact ⟨o1.ext hE, o2.ext hE, o3.ext hE, o4.ext hE⟩
      · exact LastsL.cons (fun _ _ _ _ _ _ h => h) <| LastsL.cons (fun _ _ _ _ _ _ h => h) <| LastsL.cons (fun _ _ _ _ _ hE h => by obtain ⟨v7, h, o7⟩ := h; exact ⟨_, h, o7.ext hE⟩) <| LastsL.cons (fun _ _ _ _ _ _ h => h) <| LastsL.cons (fun _ _ _ _ _ _ h => h) <| LastsL.cons (fun _ _ _ _ _ _ h => h) <| LastsL.cons (fun _ _ _ _ _ _ h => h) <| LastsL.cons (fun _ _ _ _ _ _ h => h) <| LastsL.cons (fun _ _ _ _ _ _ h => h) <| LastsL.cons (fun _ _ _ _ _ _ h => h) <| LastsL.cons (fun _ _ _ _ _ _ h => h) <| LastsL.cons (fun _ _ _ _ _ _ h => h) <| LastsL.cons (fun _ _ _ _ _ _ h => h) <| LastsL.cons (fun _ _ _ _ _ _ h => h) <| LastsL.cons (fun _ _ _ _ _ _ h => h) <| LastsL.cons (fun _ _ _ _ _ _ h => h) <| LastsL.cons (fun _ _ _ _ _ _ h => h) <| LastsL.cons (fun _ _ _ _ _ _ h => h) <| LastsL.cons (fun _ _ _ _ _ _ h => h) <| LastsL.cons (fun _ _ _ _ _ _ h => h) <| LastsL.cons (fun _ _ _ _ _ _ h => h) <| LastsL.nil
      · refine StepsB.cons ?_ <| StepsB.cons ?_ <| StepsB.cons ?_ <| StepsB.cons ?_ <| StepsB.cons ?_ <| StepsB.cons ?_ <| StepsB.cons ?_ <| StepsB.cons ?_ <| StepsB.cons ?_ <| StepsB.cons ?_ <| StepsB.cons ?_ <| StepsB.cons ?_ <| StepsB.cons ?_ <| StepsB.cons ?_ <| StepsB.cons ?_ <| StepsB.cons ?_ <| StepsB.cons ?_ <| StepsB.cons ?_ <| StepsB.cons ?_ <| StepsB.cons ?_ <| StepsB.cons ?_ <| StepsB.nil
        · intro ρ w a hw hG hf hd K hK
          obtain ⟨o1, o2, o3, o4⟩ := hG
          exact dv_ hK hw (wn rfl) (r_load_agg ty28 hf rfl o1.cl rfl) rfl
        · intro ρ w a hw hG hf hd K hK
          obtain ⟨o1, o2, o3, o4⟩ := hG
          exact dv_ hK hw (wn rfl) (r_move hf rfl) rfl
        · intro ρ w a hw hG hf hd K hK
          obtain ⟨o1, o2, o3, o4⟩ := hG
          obtain ⟨_, hf, rfl⟩ := got (hd 1 (by kernel_rfl)) hf
          refine dx_ hK hw (wn rfl) (r_lit (d := fI64) (xs := ([a1] : List Int)) (vs := [vI a1]) 7 Try.underlying61 el2 (Nat.le_of_ble_eq_true rfl) (Nat.le_of_ble_eq_true rfl) hw hf rfl rfl rfl) fun v7 w' hΦ => ?_
          obtain ⟨ρ, hw, hE, o7⟩ := hΦ
          exact ⟨_, hw, hE, ex_ <| an_ rfl <| o7⟩
        · intro ρ w a hw hG hf hd K hK
          obtain ⟨o1, o2, o3, o4⟩ := hG
          obtain ⟨_, hf, rfl⟩ := got (hd 0 (by kernel_rfl)) hf
          obtain ⟨_, hf, ⟨v7, rfl, o7⟩⟩ := got (hd 2 (by kernel_rfl)) hf
          refine dc_ hK hw (wn rfl) (r_fn en75 hf rfl) (impl_isIndex_ok (a0 := a0) (h0.now hw) o7.ro hx7) fun v w' hΦ => ?_
          obtain ⟨hb, hΦ⟩ := hΦ
          obtain rfl := hΦ
          have hE := Ext.new (ρ := ρ) 8 hb
          exact ⟨_, hw.new 8 hb, hE, rfl⟩
        · intro ρ w a hw hG hf hd K hK
          obtain ⟨o1, o2, o3, o4⟩ := hG
          obtain ⟨_, hf, rfl⟩ := got (hd 3 (by kernel_rfl)) hf
          exact dv_ hK hw (wn rfl) (r_not hf rfl) rfl
        · intro ρ w a hw hG hf hd K hK
          obtain ⟨o1, o2, o3, o4⟩ := hG
          obtain ⟨_, hf, rfl⟩ := got (hd 4 (by kernel_rfl)) hf
          exact dv_ hK hw (wn rfl) (r_move hf rfl) rfl
        · intro ρ w a hw hG hf hd K hK
          obtain ⟨o1, o2, o3, o4⟩ := hG
          obtain ⟨_, hf, rfl⟩ := got (hd 5 (by kernel_rfl)) hf
          exact dv_ hK hw (wg (b := false) hf rfl rfl rfl hb8) (r_move hf rfl) rfl
        · intro ρ w a hw hG hf hd K hK
          obtain ⟨o1, o2, o3, o4⟩ := hG
          obtain ⟨_, hf, rfl⟩ := got (hd 5 (by kernel_rfl)) hf
          obtain ⟨_, hf, rfl⟩ := got (hd 6 (by kernel_rfl)) hf
          exact dv_ hK hw (wg (b := false) hf rfl rfl rfl hb8) (r_lss hf rfl rfl) rfl
        · intro ρ w a hw hG hf hd K hK
          obtain ⟨o1, o2, o3, o4⟩ := hG
          obtain ⟨_, hf, rfl⟩ := got (hd 5 (by kernel_rfl)) hf
          obtain ⟨_, hf, rfl⟩ := got (hd 7 (by kernel_rfl)) hf
          exact dv_ hK hw (wn rfl) (r_pick (b := false) hf rfl hb8 rfl) rfl
        · intro ρ w a hw hG hf hd K hK
          obtain ⟨o1, o2, o3, o4⟩ := hG
          obtain ⟨_, hf, rfl⟩ := got (hd 8 (by kernel_rfl)) hf
          exact dv_ hK hw (wn rfl) (r_move hf rfl) rfl
        · intro ρ w a hw hG hf hd K hK
          obtain ⟨o1, o2, o3, o4⟩ := hG
          obtain ⟨_, hf, rfl⟩ := got (hd 9 (by kernel_rfl)) hf
          exact do_ hK (b := true) hw hf rfl rfl rfl hb9 rfl rfl
        · intro ρ w a hw hG hf hd K hK
          obtain ⟨o1, o2, o3, o4⟩ := hG
          obtain ⟨_, hf, rfl⟩ := got (hd 9 (by kernel_rfl)) hf
          obtain ⟨_, hf, rfl⟩ := got (hd 10 (by kernel_rfl)) hf
          exact do_ hK (b := true) hw hf rfl rfl rfl hb9 rfl rfl
        · intro ρ w a hw hG hf hd K hK
          obtain ⟨o1, o2, o3, o4⟩ := hG
          obtain ⟨_, hf, rfl⟩ := got (hd 9 (by kernel_rfl)) hf
          obtain ⟨_, hf, rfl⟩ := got (hd 11 (by kernel_rfl)) hf
          exact dv_ hK hw (wn rfl) (r_pick (b := true) hf rfl hb9 rfl) rfl
        · intro ρ w a hw hG hf hd K hK
          obtain ⟨o1, o2, o3, o4⟩ := hG
          obtain ⟨_, hf, rfl⟩ := got (hd 12 (by kernel_rfl)) hf
          exact dv_ hK hw (wn rfl) (r_move hf rfl) rfl
        · intro ρ w a hw hG hf hd K hK
          obtain ⟨o1, o2, o3, o4⟩ := hG
          obtain ⟨_, hf, rfl⟩ := got (hd 13 (by kernel_rfl)) hf
          exact do_ hK (b := true) hw hf rfl rfl rfl rfl rfl rfl
        · intro ρ w a hw hG hf hd K hK
          obtain ⟨o1, o2, o3, o4⟩ := hG
          obtain ⟨_, hf, rfl⟩ := got (hd 13 (by kernel_rfl)) hf
          obtain ⟨_, hf, rfl⟩ := got (hd 14 (by kernel_rfl)) hf
          exact do_ hK (b := true) hw hf rfl rfl rfl rfl rfl rfl
        · intro ρ w a hw hG hf hd K hK
          obtain ⟨o1, o2, o3, o4⟩ := hG
          obtain ⟨_, hf, rfl⟩ := got (hd 13 (by kernel_rfl)) hf
          exact do_ hK (b := true) hw hf rfl rfl rfl rfl rfl rfl
        · intro ρ w a hw hG hf hd K hK
          obtain ⟨o1, o2, o3, o4⟩ := hG
          obtain ⟨_, hf, rfl⟩ := got (hd 13 (by kernel_rfl)) hf
          obtain ⟨_, hf, rfl⟩ := got (hd 16 (by kernel_rfl)) hf
          exact do_ hK (b := true) hw hf rfl rfl rfl rfl rfl rfl
        · intro ρ w a hw hG hf hd K hK
          obtain ⟨o1, o2, o3, o4⟩ := hG
          obtain ⟨_, hf, rfl⟩ := got (hd 13 (by kernel_rfl)) hf
          exact do_ hK (b := true) hw hf rfl rfl rfl rfl rfl rfl
        · intro ρ w a hw hG hf hd K hK
          obtain ⟨o1, o2, o3, o4⟩ := hG
          obtain ⟨_, hf, rfl⟩ := got (hd 13 (by kernel_rfl)) hf
          obtain ⟨_, hf, rfl⟩ := got (hd 17 (by kernel_rfl)) hf
          obtain ⟨_, hf, rfl⟩ := got (hd 18 (by kernel_rfl)) hf
          exact do_ hK (b := true) hw hf rfl rfl rfl rfl rfl rfl
        · intro ρ w a hw hG hf hd K hK
          obtain ⟨o1, o2, o3, o4⟩ := hG
          obtain ⟨_, hf, rfl⟩ := got (hd 13 (by kernel_rfl)) hf
          exact do_ hK (b := true) hw hf rfl rfl rfl rfl rfl rfl
      intro ρ w a hw hG hf hd
      obtain ⟨o1, o2, o3, o4⟩ := hG
      obtain ⟨_, hf, rfl⟩ := got (hd 13 (by decide)) hf
      obtain ⟨_, hf, rfl⟩ := got (hd 15 (by decide)) hf
      obtain ⟨_, hf, rfl⟩ := got (hd 19 (by decide)) hf
      obtain ⟨_, hf, rfl⟩ := got (hd 20 (by decide)) hf
      refine st_no (b := true) hf rfl rfl rfl rfl rfl (by decide) fun a hf => ?_
      refine st_no (b := true) hf rfl rfl rfl rfl rfl (by decide) fun a hf => ?_
      refine s_ hf (r_pick (b := true) hf rfl rfl rfl) fun a hf => ?_
      refine s_ hf (r_assign hf rfl) fun a hf => ?_
      refine c_nil ⟨rfl, ?_⟩
      obtain rfl := Option.some.inj hF
      exact ⟨_, hw, hf.sub ⟨rfl, rfl, rfl, rfl, rfl, rfl, trivial⟩, o1, o2, o3, o4⟩
    rcases of_ite hF with ⟨hb10, hF⟩ | ⟨hb10, hF⟩
    · replace hf : Fr 99 a [(1, vI a1), (2, vI a2), (4, .pointer (some ((⟨g1, 0, none⟩ : Addr).add 0))), (7, .pointer (some ((⟨g2, 0, none⟩ : Addr).add 0))), (8, .pointer (some ((⟨g3, 0, none⟩ : Addr).add 0)))] := hf.sub ⟨rfl, rfl, rfl, rfl, rfl, trivial⟩
      refine c_drawL (h := 21) mixed (by kernel_rfl) (by kernel_rfl) (fun ρ w => Va ρ w 1 g1 28 ([vI a0.p, vI a0.n, vI a0.m, vI a0.k, va0]) ∧ Va ρ w 2 g2 39 (cForm.enc a3) ∧ Va ρ w 3 g3 28 ([vI 0, vI 0, vI 0, vI 0, (.slice none 0 0)]) ∧ O78 ρ w w0 4 (.slice none 0 0) ([] : List Prod)) ?_ [fun ρ w v => .agg ([vI a0.p, vI a0.n, vI a0.m, vI a0.k, va0]).toArray = v, fun ρ w v => vI a1 = v, fun ρ w v => ∃ v7, v7 = v ∧ O2 ρ w w0 7 v7 ([a1]), fun ρ w v => .bool x6 = v, fun ρ w v => .bool (!x6) = v, fun ρ w v => .bool (!x6) = v, fun ρ w v => vI a2 = v, fun ρ w v => .bool (decide (a2 < 0)) = v, fun ρ w v => .bool (decide (a2 < 0)) = v, fun ρ w v => .bool (decide (a2 < 0)) = v, fun ρ w v => vI a2 = v, fun ρ w v => .bool (decide (2 < a2)) = v, fun ρ w v => .bool (decide (2 < a2)) = v, fun ρ w v => .bool (decide (2 < a2)) = v, fun ρ w v => undef = v, fun ρ w v => undef = v, fun ρ w v => undef = v, fun ρ w v => undef = v, fun ρ w v => undef = v, fun ρ w v => undef = v, fun ρ w v => undef = v] ?_ hw ⟨o1, o2, o3, o4⟩ hf ?_ ?_
      · intro ρ w ρ' w' hE hG
        obtain ⟨o1, o2, o3, o4⟩ := hG
        exact ⟨o1.ext hE, o2.ext hE, o3.ext hE, o4.ext hE⟩
      · exact LastsL.cons (fun _ _ _ _ _ _ h => h) <| LastsL.cons (fun _ _ _ _ _ _ h => h) <| LastsL.cons (fun _ _ _ _ _ hE h => by obtain ⟨v7, h, o7⟩ := h; exact ⟨_, h, o7.ext hE⟩) <| LastsL.cons (fun _ _ _ _ _ _ h => h) <| LastsL.cons (fun _ _ _ _ _ _ h => h) <| LastsL.cons (fun _ _ _ _ _ _ h => h) <| LastsL.cons (fun _ _ _ _ _ _ h => h) <| LastsL.cons (fun _ _ _ _ _ _ h => h) <| LastsL.cons (fun _ _ _ _ _ _ h => h) <| LastsL.cons (fun _ _ _ _ _ _ h => h) <| LastsL.cons (fun _ _ _ _ _ _ h => h) <| LastsL.cons (fun _ _ _ _ _ _ h => h) <| LastsL.cons (fun _ _ _ _ _ _ h => h) <| LastsL.cons (fun _ _ _ _ _ _ h => h) <| LastsL.cons (fun _ _ _ _ _ _ h => h) <| LastsL.cons (fun _ _ _ _ _ _ h => h) <| LastsL.cons (fun _ _ _ _ _ _ h => h) <| LastsL.cons (fun _ _ _ _ _ _ h => h) <| LastsL.cons (fun _ _ _ _ _ _ h => h) <| LastsL.cons (fun _ _ _ _ _ _ h => h) <| LastsL.cons (fun _ _ _ _ _ _ h => h) <| LastsL.nil
      · refine StepsB.cons ?_ <| StepsB.cons ?_ <| StepsB.cons ?_ <| StepsB.cons ?_ <| StepsB.cons ?_ <| StepsB.cons ?_ <| StepsB.cons ?_ <| StepsB.cons ?_ <| StepsB.cons ?_ <| StepsB.cons ?_ <| StepsB.cons ?_ <| StepsB.cons ?_ <| StepsB.cons ?_ <| StepsB.cons ?_ <| StepsB.cons ?_ <| StepsB.cons ?_ <| StepsB.cons ?_ <| StepsB.cons ?_ <| StepsB.cons ?_ <| StepsB.cons ?_ <| StepsB.cons ?_ <| StepsB.nil
        · intro ρ w a hw hG hf hd K hK
          obtain ⟨o1, o2, o3, o4⟩ := hG
          exact dv_ hK hw (wn rfl) (r_load_agg ty28 hf rfl o1.cl rfl) rfl
        · intro ρ w a hw hG hf hd K hK
          obtain ⟨o1, o2, o3, o4⟩ := hG
          exact dv_ hK hw (wn rfl) (r_move hf rfl) rfl
        · intro ρ w a hw hG hf hd K hK
          obtain ⟨o1, o2, o3, o4⟩ := hG
          obtain ⟨_, hf, rfl⟩ := got (hd 1 (by kernel_rfl)) hf
          refine dx_ hK hw (wn rfl) (r_lit (d := fI64) (xs := ([a1] : List Int)) (vs := [vI a1]) 7 Try.underlying61 el2 (Nat.le_of_ble_eq_true rfl) (Nat.le_of_ble_eq_true rfl) hw hf rfl rfl rfl) fun v7 w' hΦ => ?_
          obtain ⟨ρ, hw, hE, o7⟩ := hΦ
          exact ⟨_, hw, hE, ex_ <| an_ rfl <| o7⟩
        · intro ρ w a hw hG hf hd K hK
          obtain ⟨o1, o2, o3, o4⟩ := hG
          obtain ⟨_, hf, rfl⟩ := got (hd 0 (by kernel_rfl)) hf
          obtain ⟨_, hf, ⟨v7, rfl, o7⟩⟩ := got (hd 2 (by kernel_rfl)) hf
          refine dc_ hK hw (wn rfl) (r_fn en75 hf rfl) (impl_isIndex_ok (a0 := a0) (h0.now hw) o7.ro hx7) fun v w' hΦ => ?_
          obtain ⟨hb, hΦ⟩ := hΦ
          obtain rfl := hΦ
          have hE := Ext.new (ρ := ρ) 8 hb
          exact ⟨_, hw.new 8 hb, hE, rfl⟩
        · intro ρ w a hw hG hf hd K hK
          obtain ⟨o1, o2, o3, o4⟩ := hG
          obtain ⟨_, hf, rfl⟩ := got (hd 3 (by kernel_rfl)) hf
          exact dv_ hK hw (wn rfl) (r_not hf rfl) rfl
        · intro ρ w a hw hG hf hd K hK
          obtain ⟨o1, o2, o3, o4⟩ := hG
          obtain ⟨_, hf, rfl⟩ := got (hd 4 (by kernel_rfl)) hf
          exact dv_ hK hw (wn rfl) (r_move hf rfl) rfl
        · intro ρ w a hw hG hf hd K hK
          obtain ⟨o1, o2, o3, o4⟩ := hG
          obtain ⟨_, hf, rfl⟩ := got (hd 5 (by kernel_rfl)) hf
          exact dv_ hK hw (wg (b := false) hf rfl rfl rfl hb8) (r_move hf rfl) rfl
        · intro ρ w a hw hG hf hd K hK
          obtain ⟨o1, o2, o3, o4⟩ := hG
          obtain ⟨_, hf, rfl⟩ := got (hd 5 (by kernel_rfl)) hf
          obtain ⟨_, hf, rfl⟩ := got (hd 6 (by kernel_rfl)) hf
          exact dv_ hK hw (wg (b := false) hf rfl rfl rfl hb8) (r_lss hf rfl rfl) rfl
        · intro ρ w a hw hG hf hd K hK
          obtain ⟨o1, o2, o3, o4⟩ := hG
          obtain ⟨_, hf, rfl⟩ := got (hd 5 (by kernel_rfl)) hf
          obtain ⟨_, hf, rfl⟩ := got (hd 7 (by kernel_rfl)) hf
          exact dv_ hK hw (wn rfl) (r_pick (b := false) hf rfl hb8 rfl) rfl
        · intro ρ w a hw hG hf hd K hK
          obtain ⟨o1, o2, o3, o4⟩ := hG
          obtain ⟨_, hf, rfl⟩ := got (hd 8 (by kernel_rfl)) hf
          exact dv_ hK hw (wn rfl) (r_move hf rfl) rfl
        · intro ρ w a hw hG hf hd K hK
          obtain ⟨o1, o2, o3, o4⟩ := hG
          obtain ⟨_, hf, rfl⟩ := got (hd 9 (by kernel_rfl)) hf
          exact dv_ hK hw (wg (b := false) hf rfl rfl rfl hb9) (r_move hf rfl) rfl
        · intro ρ w a hw hG hf hd K hK
          obtain ⟨o1, o2, o3, o4⟩ := hG
          obtain ⟨_, hf, rfl⟩ := got (hd 9 (by kernel_rfl)) hf
          obtain ⟨_, hf, rfl⟩ := got (hd 10 (by kernel_rfl)) hf
          exact dv_ hK hw (wg (b := false) hf rfl rfl rfl hb9) (r_gtr hf rfl rfl) rfl
        · intro ρ w a hw hG hf hd K hK
          obtain ⟨o1, o2, o3, o4⟩ := hG
          obtain ⟨_, hf, rfl⟩ := got (hd 9 (by kernel_rfl)) hf
          obtain ⟨_, hf, rfl⟩ := got (hd 11 (by kernel_rfl)) hf
          exact dv_ hK hw (wn rfl) (r_pick (b := false) hf rfl hb9 rfl) rfl
        · intro ρ w a hw hG hf hd K hK
          obtain ⟨o1, o2, o3, o4⟩ := hG
          obtain ⟨_, hf, rfl⟩ := got (hd 12 (by kernel_rfl)) hf
          exact dv_ hK hw (wn rfl) (r_move hf rfl) rfl
        · intro ρ w a hw hG hf hd K hK
          obtain ⟨o1, o2, o3, o4⟩ := hG
          obtain ⟨_, hf, rfl⟩ := got (hd 13 (by kernel_rfl)) hf
          exact do_ hK (b := true) hw hf rfl rfl rfl hb10 rfl rfl
        · intro ρ w a hw hG hf hd K hK
          obtain ⟨o1, o2, o3, o4⟩ := hG
          obtain ⟨_, hf, rfl⟩ := got (hd 13 (by kernel_rfl)) hf
          obtain ⟨_, hf, rfl⟩ := got (hd 14 (by kernel_rfl)) hf
          exact do_ hK (b := true) hw hf rfl rfl rfl hb10 rfl rfl
        · intro ρ w a hw hG hf hd K hK
          obtain ⟨o1, o2, o3, o4⟩ := hG
          obtain ⟨_, hf, rfl⟩ := got (hd 13 (by kernel_rfl)) hf
          exact do_ hK (b := true) hw hf rfl rfl rfl hb10 rfl rfl
        · intro ρ w a hw hG hf hd K hK
          obtain ⟨o1, o2, o3, o4⟩ := hG
          obtain ⟨_, hf, rfl⟩ := got (hd 13 (by kernel_rfl)) hf
          obtain ⟨_, hf, rfl⟩ := got (hd 16 (by kernel_rfl)) hf
          exact do_ hK (b := true) hw hf rfl rfl rfl hb10 rfl rfl
        · intro ρ w a hw hG hf hd K hK
          obtain ⟨o1, o2, o3, o4⟩ := hG
          obtain ⟨_, hf, rfl⟩ := got (hd 13 (by kernel_rfl)) hf
          exact do_ hK (b := true) hw hf rfl rfl rfl hb10 rfl rfl
        · intro ρ w a hw hG hf hd K hK
          obtain ⟨o1, o2, o3, o4⟩ := hG
          obtain ⟨_, hf, rfl⟩ := got (hd 13 (by kernel_rfl)) hf
          obtain ⟨_, hf, rfl⟩ := got (hd 17 (by kernel_rfl)) hf
          obtain ⟨_, hf, rfl⟩ := got (hd 18 (by kernel_rfl)) hf
          exact do_ hK (b := true) hw hf rfl rfl rfl hb10 rfl rfl
        · intro ρ w a hw hG hf hd K hK
          obtain ⟨o1, o2, o3, o4⟩ := hG
          obtain ⟨_, hf, rfl⟩ := got (hd 13 (by kernel_rfl)) hf
          exact do_ hK (b := true) hw hf rfl rfl rfl hb10 rfl rfl
      intro ρ w a hw hG hf hd
      obtain ⟨o1, o2, o3, o4⟩ := hG
      obtain ⟨_, hf, rfl⟩ := got (hd 13 (by decide)) hf
      obtain ⟨_, hf, rfl⟩ := got (hd 15 (by decide)) hf
      obtain ⟨_, hf, rfl⟩ := got (hd 19 (by decide)) hf
      obtain ⟨_, hf, rfl⟩ := got (hd 20 (by decide)) hf
      refine st_no (b := true) hf rfl rfl rfl hb10 rfl (by decide) fun a hf => ?_
      refine st_no (b := true) hf rfl rfl rfl hb10 rfl (by decide) fun a hf => ?_
      refine s_ hf (r_pick (b := true) hf rfl hb10 rfl) fun a hf => ?_
      refine s_ hf (r_assign hf rfl) fun a hf => ?_
      refine c_nil ⟨rfl, ?_⟩
      obtain rfl := Option.some.inj hF
      exact ⟨_, hw, hf.sub ⟨rfl, rfl, rfl, rfl, rfl, rfl, trivial⟩, o1, o2, o3, o4⟩
    obtain ⟨x11, hx12, hF⟩ := of_bind hF
    obtain ⟨hc13, hF⟩ := of_guard hF
    replace hf : Fr 99 a [(1, vI a1), (2, vI a2), (4, .pointer (some ((⟨g1, 0, none⟩ : Addr).add 0))), (7, .pointer (some ((⟨g2, 0, none⟩ : Addr).add 0))), (8, .pointer (some ((⟨g3, 0, none⟩ : Addr).add 0)))] := hf.sub ⟨rfl, rfl, rfl, rfl, rfl, trivial⟩
    refine c_drawL (h := 21) mixed (by kernel_rfl) (by kernel_rfl) (fun ρ w => Va ρ w 1 g1 28 ([vI a0.p, vI a0.n, vI a0.m, vI a0.k, va0]) ∧ Va ρ w 2 g2 39 (cForm.enc a3) ∧ Va ρ w 3 g3 28 ([vI 0, vI 0, vI 0, vI 0, (.slice none 0 0)]) ∧ O78 ρ w w0 4 (.slice none 0 0) ([] : List Prod)) ?_ [fun ρ w v => .agg ([vI a0.p, vI a0.n, vI a0.m, vI a0.k, va0]).toArray = v, fun ρ w v => vI a1 = v, fun ρ w v => ∃ v7, v7 = v ∧ O2 ρ w w0 7 v7 ([a1]), fun ρ w v => .bool x6 = v, fun ρ w v => .bool (!x6) = v, fun ρ w v => .bool (!x6) = v, fun ρ w v => vI a2 = v, fun ρ w v => .bool (decide (a2 < 0)) = v, fun ρ w v => .bool (decide (a2 < 0)) = v, fun ρ w v => .bool (decide (a2 < 0)) = v, fun ρ w v => vI a2 = v, fun ρ w v => .bool (decide (2 < a2)) = v, fun ρ w v => .bool (decide (2 < a2)) = v, fun ρ w v => .bool (decide (2 < a2)) = v, fun ρ w v => .pointer (some ((⟨g1, 0, none⟩ : Addr).add (0 + 0))) = v, fun ρ w v => vI a0.p = v, fun ρ w v => .agg ([vI a0.p, vI a0.n, vI a0.m, vI a0.k, va0]).toArray = v, fun ρ w v => .agg (cVec3.enc x11).toArray = v, fun ρ w v => vI a2 = v, fun ρ w v => vI (vg 0 x11 a2) = v, fun ρ w v => .agg (cForm.enc a3).toArray = v] ?_ hw ⟨o1, o2, o3, o4⟩ hf ?_ ?_
    · intro ρ w ρ' w' hE hG
      obtain ⟨o1, o2, o3, o4⟩ := hG
      exact ⟨o1.ext hE, o2.ext hE, o3.ext hE, o4.ext hE⟩
    · exact LastsL.cons (fun _ _ _ _ _ _ h => h) <| LastsL.cons (fun _ _ _ _ _ _ h => h) <| LastsL.cons (fun _ _ _ _ _ hE h => by obtain ⟨v7, h, o7⟩ := h; exact ⟨_, h, o7.ext hE⟩) <| LastsL.cons (fun _ _ _ _ _ _ h => h) <| LastsL.cons (fun _ _ _ _ _ _ h => h) <| LastsL.cons (fun _ _ _ _ _ _ h => h) <| LastsL.cons (fun _ _ _ _ _ _ h => h) <| LastsL.cons (fun _ _ _ _ _ _ h => h) <| LastsL.cons (fun _ _ _ _ _ _ h => h) <| LastsL.cons (fun _ _ _ _ _ _ h => h) <| LastsL.cons (fun _ _ _ _ _ _ h => h) <| LastsL.cons (fun _ _ _ _ _ _ h => h) <| LastsL.cons (fun _ _ _ _ _ _ h => h) <| LastsL.cons (fun _ _ _ _ _ _ h => h) <| LastsL.cons (fun _ _ _ _ _ _ h => h) <| LastsL.cons (fun _ _ _ _ _ _ h => h) <| LastsL.cons (fun _ _ _ _ _ _ h => h) <| LastsL.cons (fun _ _ _ _ _ _ h => h) <| LastsL.cons (fun _ _ _ _ _ _ h => h) <| LastsL.cons (fun _ _ _ _ _ _ h => h) <| LastsL.cons (fun _ _ _ _ _ _ h => h) <| LastsL.nil
    · refine StepsB.cons ?_ <| StepsB.cons ?_ <| StepsB.cons ?_ <| StepsB.cons ?_ <| StepsB.cons ?_ <| StepsB.cons ?_ <| StepsB.cons ?_ <| StepsB.cons ?_ <| StepsB.cons ?_ <| StepsB.cons ?_ <| StepsB.cons ?_ <| StepsB.cons ?_ <| StepsB.cons ?_ <| StepsB.cons ?_ <| StepsB.cons ?_ <| StepsB.cons ?_ <| StepsB.cons ?_ <| StepsB.cons ?_ <| StepsB.cons ?_ <| StepsB.cons ?_ <| StepsB.cons ?_ <| StepsB.nil
      · intro ρ w a hw hG hf hd K hK
        obtain ⟨o1, o2, o3, o4⟩ := hG
        exact dv_ hK hw (wn rfl) (r_load_agg ty28 hf rfl o1.cl rfl) rfl
      · intro ρ w a hw hG hf hd K hK
        obtain ⟨o1, o2, o3, o4⟩ := hG
        exact dv_ hK hw (wn rfl) (r_move hf rfl) rfl
      · intro ρ w a hw hG hf hd K hK
        obtain ⟨o1, o2, o3, o4⟩ := hG
        obtain ⟨_, hf, rfl⟩ := got (hd 1 (by kernel_rfl)) hf
        refine dx_ hK hw (wn rfl) (r_lit (d := fI64) (xs := ([a1] : List Int)) (vs := [vI a1]) 7 Try.underlying61 el2 (Nat.le_of_ble_eq_true rfl) (Nat.le_of_ble_eq_true rfl) hw hf rfl rfl rfl) fun v7 w' hΦ => ?_
        obtain ⟨ρ, hw, hE, o7⟩ := hΦ
        exact ⟨_, hw, hE, ex_ <| an_ rfl <| o7⟩
      · intro ρ w a hw hG hf hd K hK
        obtain ⟨o1, o2, o3, o4⟩ := hG
        obtain ⟨_, hf, rfl⟩ := got (hd 0 (by kernel_rfl)) hf
        obtain ⟨_, hf, ⟨v7, rfl, o7⟩⟩ := got (hd 2 (by kernel_rfl)) hf
        refine dc_ hK hw (wn rfl) (r_fn en75 hf rfl) (impl_isIndex_ok (a0 := a0) (h0.now hw) o7.ro hx7) fun v w' hΦ => ?_
        obtain ⟨hb, hΦ⟩ := hΦ
        obtain rfl := hΦ
        have hE := Ext.new (ρ := ρ) 8 hb
        exact ⟨_, hw.new 8 hb, hE, rfl⟩
      · intro ρ w a hw hG hf hd K hK
        obtain ⟨o1, o2, o3, o4⟩ := hG
        obtain ⟨_, hf, rfl⟩ := got (hd 3 (by kernel_rfl)) hf
        exact dv_ hK hw (wn rfl) (r_not hf rfl) rfl
      · intro ρ w a hw hG hf hd K hK
        obtain ⟨o1, o2, o3, o4⟩ := hG
        obtain ⟨_, hf, rfl⟩ := got (hd 4 (by kernel_rfl)) hf
        exact dv_ hK hw (wn rfl) (r_move hf rfl) rfl
      · intro ρ w a hw hG hf hd K hK
        obtain ⟨o1, o2, o3, o4⟩ := hG
        obtain ⟨_, hf, rfl⟩ := got (hd 5 (by kernel_rfl)) hf
        exact dv_ hK hw (wg (b := false) hf rfl rfl rfl hb8) (r_move hf rfl) rfl
      · intro ρ w a hw hG hf hd K hK
        obtain ⟨o1, o2, o3, o4⟩ := hG
        obtain ⟨_, hf, rfl⟩ := got (hd 5 (by kernel_rfl)) hf
        obtain ⟨_, hf, rfl⟩ := got (hd 6 (by kernel_rfl)) hf
        exact dv_ hK hw (wg (b := false) hf rfl rfl rfl hb8) (r_lss hf rfl rfl) rfl
      · intro ρ w a hw hG hf hd K hK
        obtain ⟨o1, o2, o3, o4⟩ := hG
        obtain ⟨_, hf, rfl⟩ := got (hd 5 (by kernel_rfl)) hf
        obtain ⟨_, hf, rfl⟩ := got (hd 7 (by kernel_rfl)) hf
        exact dv_ hK hw (wn rfl) (r_pick (b := false) hf rfl hb8 rfl) rfl
      · intro ρ w a hw hG hf hd K hK
        obtain ⟨o1, o2, o3, o4⟩ := hG
        obtain ⟨_, hf, rfl⟩ := got (hd 8 (by kernel_rfl)) hf
        exact dv_ hK hw (wn rfl) (r_move hf rfl) rfl
      · intro ρ w a hw hG hf hd K hK
        obtain ⟨o1, o2, o3, o4⟩ := hG
        obtain ⟨_, hf, rfl⟩ := got (hd 9 (by kernel_rfl)) hf
        exact dv_ hK hw (wg (b := false) hf rfl rfl rfl hb9) (r_move hf rfl) rfl
      · intro ρ w a hw hG hf hd K hK
        obtain ⟨o1, o2, o3, o4⟩ := hG
        obtain ⟨_, hf, rfl⟩ := got (hd 9 (by kernel_rfl)) hf
        obtain ⟨_, hf, rfl⟩ := got (hd 10 (by kernel_rfl)) hf
        exact dv_ hK hw (wg (b := false) hf rfl rfl rfl hb9) (r_gtr hf rfl rfl) rfl
      · intro ρ w a hw hG hf hd K hK
        obtain ⟨o1, o2, o3, o4⟩ := hG
        obtain ⟨_, hf, rfl⟩ := got (hd 9 (by kernel_rfl)) hf
        obtain ⟨_, hf, rfl⟩ := got (hd 11 (by kernel_rfl)) hf
        exact dv_ hK hw (wn rfl) (r_pick (b := false) hf rfl hb9 rfl) rfl
      · intro ρ w a hw hG hf hd K hK
        obtain ⟨o1, o2, o3, o4⟩ := hG
        obtain ⟨_, hf, rfl⟩ := got (hd 12 (by kernel_rfl)) hf
        exact dv_ hK hw (wn rfl) (r_move hf rfl) rfl
      · intro ρ w a hw hG hf hd K hK
        obtain ⟨o1, o2, o3, o4⟩ := hG
        obtain ⟨_, hf, rfl⟩ := got (hd 13 (by kernel_rfl)) hf
        exact dv_ hK hw (wg (b := false) hf rfl rfl rfl hb10) (r_fa fa28_0 hf rfl) rfl
      · intro ρ w a hw hG hf hd K hK
        obtain ⟨o1, o2, o3, o4⟩ := hG
        obtain ⟨_, hf, rfl⟩ := got (hd 13 (by kernel_rfl)) hf
        obtain ⟨_, hf, rfl⟩ := got (hd 14 (by kernel_rfl)) hf
        exact dv_ hK hw (wg (b := false) hf rfl rfl rfl hb10) (r_load_cell ty2 hf rfl (o1.cl.at_ 0 _ rfl)) rfl
      · intro ρ w a hw hG hf hd K hK
        obtain ⟨o1, o2, o3, o4⟩ := hG
        obtain ⟨_, hf, rfl⟩ := got (hd 13 (by kernel_rfl)) hf
        exact dv_ hK hw (wg (b := false) hf rfl rfl rfl hb10) (r_load_agg ty28 hf rfl o1.cl rfl) rfl
      · intro ρ w a hw hG hf hd K hK
        obtain ⟨o1, o2, o3, o4⟩ := hG
        obtain ⟨_, hf, rfl⟩ := got (hd 13 (by kernel_rfl)) hf
        obtain ⟨_, hf, rfl⟩ := got (hd 16 (by kernel_rfl)) hf
        refine dc_ hK hw (wg (b := false) hf rfl rfl rfl hb10) (r_fn en86 hf rfl) (impl_placesOf_ok (a0 := a0) (h0.now hw) hx12) fun v w' hΦ => ?_
        obtain ⟨hb, hΦ⟩ := hΦ
        obtain rfl := hΦ
        have hE := Ext.new (ρ := ρ) 9 hb
        exact ⟨_, hw.new 9 hb, hE, rfl⟩
      · intro ρ w a hw hG hf hd K hK
        obtain ⟨o1, o2, o3, o4⟩ := hG
        obtain ⟨_, hf, rfl⟩ := got (hd 13 (by kernel_rfl)) hf
        exact dv_ hK hw (wg (b := false) hf rfl rfl rfl hb10) (r_move hf rfl) rfl
      · intro ρ w a hw hG hf hd K hK
        obtain ⟨o1, o2, o3, o4⟩ := hG
        obtain ⟨_, hf, rfl⟩ := got (hd 13 (by kernel_rfl)) hf
        obtain ⟨_, hf, rfl⟩ := got (hd 17 (by kernel_rfl)) hf
        obtain ⟨_, hf, rfl⟩ := got (hd 18 (by kernel_rfl)) hf
        exact dv_ hK hw (wg (b := false) hf rfl rfl rfl hb10) (r_index_lc Try.underlying89 ty2 hf rfl rfl hc13.1 hc13.2 (Lens.vec 0 fI64 a2 hc13.1 hc13.2) rfl) rfl
      · intro ρ w a hw hG hf hd K hK
        obtain ⟨o1, o2, o3, o4⟩ := hG
        obtain ⟨_, hf, rfl⟩ := got (hd 13 (by kernel_rfl)) hf
        exact dv_ hK hw (wg (b := false) hf rfl rfl rfl hb10) (r_load_agg ty39 hf rfl o2.cl (cForm.len _)) rfl
    intro ρ w a hw hG hf hd
    obtain ⟨o1, o2, o3, o4⟩ := hG
    obtain ⟨_, hf, rfl⟩ := got (hd 13 (by decide)) hf
    obtain ⟨_, hf, rfl⟩ := got (hd 15 (by decide)) hf
    obtain ⟨_, hf, rfl⟩ := got (hd 19 (by decide)) hf
    obtain ⟨_, hf, rfl⟩ := got (hd 20 (by decide)) hf
    obtain ⟨x14, hx15, hF⟩ := of_bind hF
    refine st_gfn (b := false) 10 hw hf rfl rfl rfl hb10 rfl (by decide) (r_fn en85 hf rfl) (impl_isForm_ok  hx15) fun a v w ρ hf hw hE hN hΦ => ?_
    obtain rfl := hΦ
    replace o1 := o1.ext hE
    replace o2 := o2.ext hE
    replace o3 := o3.ext hE
    replace o4 := o4.ext hE
    refine st_g (b := false) hf rfl rfl rfl hb10 rfl (by decide) (r_not hf rfl) fun a hf => ?_
    refine s_ hf (r_pick (b := false) hf rfl hb10 rfl) fun a hf => ?_
    refine s_ hf (r_assign hf rfl) fun a hf => ?_
    refine c_nil ⟨rfl, ?_⟩
    obtain rfl := Option.some.inj hF
    exact ⟨_, hw, hf.sub ⟨rfl, rfl, rfl, rfl, rfl, rfl, trivial⟩, o1, o2, o3, o4⟩
  rintro a w ⟨ρ, hw, hf, o1, o2, o3, o4⟩
  have hF := hG4
  refine n_then ?_
  rcases of_ite hF with ⟨hb16, hF⟩ | ⟨hb16, hF⟩
  · refine c_ift hf rfl hb16 <| c_seq <| c_region ?_
    have o11 : Ow (kf cProd) 78 ρ w w0.heap.size 11 (.slice none 0 0) [] := Ow.nil _ _ _ _ _ _
    refine s_ hf (r_build_struct (pl := [(0, 1), (1, 1), (2, 1), (3, 1), (4, 1)]) (vs := []) (res := ([vI 0, vI 0, vI 0, vI 0, (.slice none 0 0)]).toArray) Try.underlying28 (by kernel_rfl) ze28 hf rfl rfl rfl) fun a hf => ?_
    refine sk_ hf (r_store_w (cs' := [vI 0, vI 0, vI 0, vI 0, (.slice none 0 0)]) hw o3 (by decide) ty28 rfl rfl (one_sch o11.ro.one) hf rfl rfl rfl) fun a w hf hΦ => ?_
    obtain ⟨hw, hA, o3⟩ := hΦ
    replace o1 := o1.adv hA (by decide)
    replace o2 := o2.adv hA (by decide)
    replace o4 := o4.adv hA (by decide)
    replace o11 := o11.adv hA (by decide)
    refine s_ hf (r_assign hf rfl) fun a hf => ?_
    refine c_nt <| c_retc ?_
    obtain rfl := Option.some.inj hF
    refine r_block <| r_then <| c_ret hf (res_ct Try.results26 ty28 hf rfl o3.cl rfl rfl) ?_
    exact ⟨_, rfl, hw.below, ⟨_, rfl, o11.out⟩⟩
  refine c_iff hf rfl hb16 <| c_skip <| n_block <| n_then <| c_seq <| c_region ?_
  refine s_ hf (r_fa fa28_4 hf rfl) fun a hf => ?_
  refine s_ hf (r_load_cell ty26 hf rfl (o1.cl.at_ 4 _ rfl)) fun a hf => ?_
  refine s_ hf (r_move hf rfl) fun a hf => ?_
  obtain ⟨hc17, hF⟩ := of_guard hF
  obtain ⟨ad18, c18, he18, hl18⟩ := Ro.el cProd h0 zProd hc17.1 hc17.2
  refine s_ hf (r_idx Try.underlying26 sz78 hf rfl ⟨_, he18⟩ rfl hc17.1 hc17.2) fun a hf => ?_
  refine s_ hf (r_load_agg ty78 hf rfl (hl18.below hw.below) (cProd.len _)) fun a hf => ?_
  obtain ⟨x19, hx20, hF⟩ := of_bind hF
  refine st_fn 12 hw hf rfl rfl (by decide) (r_fn en87 hf rfl) (impl_factors_ok  hx20) fun a v w ρ hf hw hE hN hΦ => ?_
  obtain rfl := hΦ
  replace o1 := o1.ext hE
  replace o2 := o2.ext hE
  replace o3 := o3.ext hE
  replace o4 := o4.ext hE
  refine sx_ hf (r_alloc (cs := cForms.enc zForms) 13 ze91 rfl hw) fun a v w hf hΦ => ?_
  obtain ⟨g13, ρ, rfl, hw, hE, o13⟩ := hΦ
  replace o1 := o1.ext hE
  replace o2 := o2.ext hE
  replace o3 := o3.ext hE
  replace o4 := o4.ext hE
  refine sk_ hf (r_store_w (cs' := cForms.enc x19) hw o13 (by decide) ty91 (cForms.len _) (cForms.len _) (cForms.one _) hf rfl rfl rfl) fun a w hf hΦ => ?_
  obtain ⟨hw, hA, o13⟩ := hΦ
  replace o1 := o1.adv hA (by decide)
  replace o2 := o2.adv hA (by decide)
  replace o3 := o3.adv hA (by decide)
  replace o4 := o4.adv hA (by decide)
  refine c_nt <| c_seq <| c_region ?_
  refine s_ hf (r_load_agg ty91 hf rfl o13.cl (cForms.len _)) fun a hf => ?_
  refine sx_ hf (r_alloc (cs := cForms.enc zForms) 14 ze91 rfl hw) fun a v w hf hΦ => ?_
  obtain ⟨g14, ρ, rfl, hw, hE, o14⟩ := hΦ
  replace o1 := o1.ext hE
  replace o2 := o2.ext hE
  replace o3 := o3.ext hE
  replace o4 := o4.ext hE
  replace o13 := o13.ext hE
  refine sk_ hf (r_store_w (cs' := cForms.enc x19) hw o14 (by decide) ty91 (cForms.len _) (cForms.len _) (cForms.one _) hf rfl rfl rfl) fun a w hf hΦ => ?_
  obtain ⟨hw, hA, o14⟩ := hΦ
  replace o1 := o1.adv hA (by decide)
  replace o2 := o2.adv hA (by decide)
  replace o3 := o3.adv hA (by decide)
  replace o4 := o4.adv hA (by decide)
  replace o13 := o13.adv hA (by decide)
  refine c_nt <| c_seq <| c_block <| c_seq ?_
  obtain ⟨s22, hT21, hG21⟩ := of_bind hF
  clear hF
  refine c_meet (fun (s22 : Bool) a w => ∃ ρ, Wd w0 ρ w ∧ Fr 99 a [(1, vI a1), (2, vI a2), (4, .pointer (some ((⟨g1, 0, none⟩ : Addr).add 0))), (7, .pointer (some ((⟨g2, 0, none⟩ : Addr).add 0))), (8, .pointer (some ((⟨g3, 0, none⟩ : Addr).add 0))), (10, .pointer (some ((⟨g13, 0, none⟩ : Addr).add 0))), (11, .pointer (some ((⟨g14, 0, none⟩ : Addr).add 0))), (51, .bool s22)] ∧ Va ρ w 1 g1 28 ([vI a0.p, vI a0.n, vI a0.m, vI a0.k, va0]) ∧ Va ρ w 2 g2 39 (cForm.enc a3) ∧ Va ρ w 3 g3 28 ([vI 0, vI 0, vI 0, vI 0, (.slice none 0 0)]) ∧ O78 ρ w w0 4 (.slice none 0 0) ([] : List Prod) ∧ Va ρ w 13 g13 91 (cForms.enc x19) ∧ Va ρ w 14 g14 91 (cForms.enc x19)) s22 ?_ ?_
  · have hF := hT21
    rcases of_ite hF with ⟨hb23, hF⟩ | ⟨hb23, hF⟩
    · replace hf : Fr 99 a [(1, vI a1), (2, vI a2), (4, .pointer (some ((⟨g1, 0, none⟩ : Addr).add 0))), (7, .pointer (some ((⟨g2, 0, none⟩ : Addr).add 0))), (8, .pointer (some ((⟨g3, 0, none⟩ : Addr).add 0))), (10, .pointer (some ((⟨g13, 0, none⟩ : Addr).add 0))), (11, .pointer (some ((⟨g14, 0, none⟩ : Addr).add 0)))] := hf.sub ⟨rfl, rfl, rfl, rfl, rfl, rfl, rfl, trivial⟩
      refine c_drawL (h := 8) mixed (by kernel_rfl) (by kernel_rfl) (fun ρ w => Va ρ w 1 g1 28 ([vI a0.p, vI a0.n, vI a0.m, vI a0.k, va0]) ∧ Va ρ w 2 g2 39 (cForm.enc a3) ∧ Va ρ w 3 g3 28 ([vI 0, vI 0, vI 0, vI 0, (.slice none 0 0)]) ∧ O78 ρ w w0 4 (.slice none 0 0) ([] : List Prod) ∧ Va ρ w 13 g13 91 (cForms.enc x19) ∧ Va ρ w 14 g14 91 (cForms.enc x19)) ?_ [fun ρ w v => .agg (cForm.enc a3).toArray = v, fun ρ w v => .agg (cForm.enc zForm).toArray = v, fun ρ w v => .bool (decide (a3 = zForm)) = v, fun ρ w v => .bool (decide (a3 = zForm)) = v, fun ρ w v => undef = v, fun ρ w v => undef = v, fun ρ w v => undef = v, fun ρ w v => undef = v] ?_ hw ⟨o1, o2, o3, o4, o13, o14⟩ hf ?_ ?_
      · intro ρ w ρ' w' hE hG
        obtain ⟨o1, o2, o3, o4, o13, o14⟩ := hG
        exact ⟨o1.ext hE, o2.ext hE, o3.ext hE, o4.ext hE, o13.ext hE, o14.ext hE⟩
      · exact LastsL.cons (fun _ _ _ _ _ _ h => h) <| LastsL.cons (fun _ _ _ _ _ _ h => h) <| LastsL.cons (fun _ _ _ _ _ _ h => h) <| LastsL.cons (fun _ _ _ _ _ _ h => h) <| LastsL.cons (fun _ _ _ _ _ _ h => h) <| LastsL.cons (fun _ _ _ _ _ _ h => h) <| LastsL.cons (fun _ _ _ _ _ _ h => h) <| LastsL.cons (fun _ _ _ _ _ _ h => h) <| LastsL.nil
      · refine StepsB.cons ?_ <| StepsB.cons ?_ <| StepsB.cons ?_ <| StepsB.cons ?_ <| StepsB.cons ?_ <| StepsB.cons ?_ <| StepsB.cons ?_ <| StepsB.cons ?_ <| StepsB.nil
        · intro ρ w a hw hG hf hd K hK
          obtain ⟨o1, o2, o3, o4, o13, o14⟩ := hG
          exact dv_ hK hw (wn rfl) (r_load_agg ty39 hf rfl o2.cl (cForm.len _)) rfl
        · intro ρ w a hw hG hf hd K hK
          obtain ⟨o1, o2, o3, o4, o13, o14⟩ := hG
          exact dv_ hK hw (wn rfl) (r_build_arr (vs := []) (res := (cForm.enc zForm).toArray) Try.underlying39 sz5 ze39 hf rfl rfl rfl) rfl
        · intro ρ w a hw hG hf hd K hK
          obtain ⟨o1, o2, o3, o4, o13, o14⟩ := hG
          obtain ⟨_, hf, rfl⟩ := got (hd 0 (by kernel_rfl)) hf
          obtain ⟨_, hf, rfl⟩ := got (hd 1 (by kernel_rfl)) hf
          exact dv_ hK hw (wn rfl) (r_eq (d := cForm) eq39 ⟨_, rfl⟩ gt39 hf rfl rfl) rfl
        · intro ρ w a hw hG hf hd K hK
          obtain ⟨o1, o2, o3, o4, o13, o14⟩ := hG
          obtain ⟨_, hf, rfl⟩ := got (hd 2 (by kernel_rfl)) hf
          exact dv_ hK hw (wn rfl) (r_move hf rfl) rfl
        · intro ρ w a hw hG hf hd K hK
          obtain ⟨o1, o2, o3, o4, o13, o14⟩ := hG
          obtain ⟨_, hf, rfl⟩ := got (hd 3 (by kernel_rfl)) hf
          exact do_ hK (b := true) hw hf rfl rfl rfl hb23 rfl rfl
        · intro ρ w a hw hG hf hd K hK
          obtain ⟨o1, o2, o3, o4, o13, o14⟩ := hG
          obtain ⟨_, hf, rfl⟩ := got (hd 3 (by kernel_rfl)) hf
          exact do_ hK (b := true) hw hf rfl rfl rfl hb23 rfl rfl
        · intro ρ w a hw hG hf hd K hK
          obtain ⟨o1, o2, o3, o4, o13, o14⟩ := hG
          obtain ⟨_, hf, rfl⟩ := got (hd 3 (by kernel_rfl)) hf
          obtain ⟨_, hf, rfl⟩ := got (hd 5 (by kernel_rfl)) hf
          exact do_ hK (b := true) hw hf rfl rfl rfl hb23 rfl rfl
        · intro ρ w a hw hG hf hd K hK
          obtain ⟨o1, o2, o3, o4, o13, o14⟩ := hG
          obtain ⟨_, hf, rfl⟩ := got (hd 3 (by kernel_rfl)) hf
          obtain ⟨_, hf, rfl⟩ := got (hd 6 (by kernel_rfl)) hf
          exact do_ hK (b := true) hw hf rfl rfl rfl hb23 rfl rfl
      intro ρ w a hw hG hf hd
      obtain ⟨o1, o2, o3, o4, o13, o14⟩ := hG
      obtain ⟨_, hf, rfl⟩ := got (hd 3 (by decide)) hf
      obtain ⟨_, hf, rfl⟩ := got (hd 4 (by decide)) hf
      obtain ⟨_, hf, rfl⟩ := got (hd 7 (by decide)) hf
      refine st_no (b := true) hf rfl rfl rfl hb23 rfl (by decide) fun a hf => ?_
      refine s_ hf (r_pick (b := true) hf rfl hb23 rfl) fun a hf => ?_
      refine s_ hf (r_assign hf rfl) fun a hf => ?_
      refine c_nil ⟨rfl, ?_⟩
      obtain rfl := Option.some.inj hF
      exact ⟨_, hw, hf.sub ⟨rfl, rfl, rfl, rfl, rfl, rfl, rfl, rfl, trivial⟩, o1, o2, o3, o4, o13, o14⟩
    obtain ⟨hc24, hF⟩ := of_guard hF
    replace hf : Fr 99 a [(1, vI a1), (2, vI a2), (4, .pointer (some ((⟨g1, 0, none⟩ : Addr).add 0))), (7, .pointer (some ((⟨g2, 0, none⟩ : Addr).add 0))), (8, .pointer (some ((⟨g3, 0, none⟩ : Addr).add 0))), (10, .pointer (some ((⟨g13, 0, none⟩ : Addr).add 0))), (11, .pointer (some ((⟨g14, 0, none⟩ : Addr).add 0)))] := hf.sub ⟨rfl, rfl, rfl, rfl, rfl, rfl, rfl, trivial⟩
    refine c_drawL (h := 8) mixed (by kernel_rfl) (by kernel_rfl) (fun ρ w => Va ρ w 1 g1 28 ([vI a0.p, vI a0.n, vI a0.m, vI a0.k, va0]) ∧ Va ρ w 2 g2 39 (cForm.enc a3) ∧ Va ρ w 3 g3 28 ([vI 0, vI 0, vI 0, vI 0, (.slice none 0 0)]) ∧ O78 ρ w w0 4 (.slice none 0 0) ([] : List Prod) ∧ Va ρ w 13 g13 91 (cForms.enc x19) ∧ Va ρ w 14 g14 91 (cForms.enc x19)) ?_ [fun ρ w v => .agg (cForm.enc a3).toArray = v, fun ρ w v => .agg (cForm.enc zForm).toArray = v, fun ρ w v => .bool (decide (a3 = zForm)) = v, fun ρ w v => .bool (decide (a3 = zForm)) = v, fun ρ w v => .agg (cForm.enc a3).toArray = v, fun ρ w v => vI a2 = v, fun ρ w v => .pointer (some ((⟨g13, 0, none⟩ : Addr).add (0 + a2.toNat * 9))) = v, fun ρ w v => .agg (cForm.enc (vg zForm x19 a2)).toArray = v] ?_ hw ⟨o1, o2, o3, o4, o13, o14⟩ hf ?_ ?_
    · intro ρ w ρ' w' hE hG
      obtain ⟨o1, o2, o3, o4, o13, o14⟩ := hG
      exact ⟨o1.ext hE, o2.ext hE, o3.ext hE, o4.ext hE, o13.ext hE, o14.ext hE⟩
    · exact LastsL.cons (fun _ _ _ _ _ _ h => h) <| LastsL.cons (fun _ _ _ _ _ _ h => h) <| LastsL.cons (fun _ _ _ _ _ _ h => h) <| LastsL.cons (fun _ _ _ _ _ _ h => h) <| LastsL.cons (fun _ _ _ _ _ _ h => h) <| LastsL.cons (fun _ _ _ _ _ _ h => h) <| LastsL.cons (fun _ _ _ _ _ _ h => h) <| LastsL.cons (fun _ _ _ _ _ _ h => h) <| LastsL.nil
    · refine StepsB.cons ?_ <| StepsB.cons ?_ <| StepsB.cons ?_ <| StepsB.cons ?_ <| StepsB.cons ?_ <| StepsB.cons ?_ <| StepsB.cons ?_ <| StepsB.cons ?_ <| StepsB.nil
      · intro ρ w a hw hG hf hd K hK
        obtain ⟨o1, o2, o3, o4, o13, o14⟩ := hG
        exact dv_ hK hw (wn rfl) (r_load_agg ty39 hf rfl o2.cl (cForm.len _)) rfl
      · intro ρ w a hw hG hf hd K hK
        obtain ⟨o1, o2, o3, o4, o13, o14⟩ := hG
        exact dv_ hK hw (wn rfl) (r_build_arr (vs := []) (res := (cForm.enc zForm).toArray) Try.underlying39 sz5 ze39 hf rfl rfl rfl) rfl
      · intro ρ w a hw hG hf hd K hK
        obtain ⟨o1, o2, o3, o4, o13, o14⟩ := hG
        obtain ⟨_, hf, rfl⟩ := got (hd 0 (by kernel_rfl)) hf
        obtain ⟨_, hf, rfl⟩ := got (hd 1 (by kernel_rfl)) hf
        exact dv_ hK hw (wn rfl) (r_eq (d := cForm) eq39 ⟨_, rfl⟩ gt39 hf rfl rfl) rfl
      · intro ρ w a hw hG hf hd K hK
        obtain ⟨o1, o2, o3, o4, o13, o14⟩ := hG
        obtain ⟨_, hf, rfl⟩ := got (hd 2 (by kernel_rfl)) hf
        exact dv_ hK hw (wn rfl) (r_move hf rfl) rfl
      · intro ρ w a hw hG hf hd K hK
        obtain ⟨o1, o2, o3, o4, o13, o14⟩ := hG
        obtain ⟨_, hf, rfl⟩ := got (hd 3 (by kernel_rfl)) hf
        exact dv_ hK hw (wg (b := false) hf rfl rfl rfl hb23) (r_load_agg ty39 hf rfl o2.cl (cForm.len _)) rfl
      · intro ρ w a hw hG hf hd K hK
        obtain ⟨o1, o2, o3, o4, o13, o14⟩ := hG
        obtain ⟨_, hf, rfl⟩ := got (hd 3 (by kernel_rfl)) hf
        exact dv_ hK hw (wg (b := false) hf rfl rfl rfl hb23) (r_move hf rfl) rfl
      · intro ρ w a hw hG hf hd K hK
        obtain ⟨o1, o2, o3, o4, o13, o14⟩ := hG
        obtain ⟨_, hf, rfl⟩ := got (hd 3 (by kernel_rfl)) hf
        obtain ⟨_, hf, rfl⟩ := got (hd 5 (by kernel_rfl)) hf
        exact dv_ hK hw (wg (b := false) hf rfl rfl rfl hb23) (r_indexAddr_arr Try.underlying91 sz39 hf rfl rfl hc24.1 hc24.2) rfl
      · intro ρ w a hw hG hf hd K hK
        obtain ⟨o1, o2, o3, o4, o13, o14⟩ := hG
        obtain ⟨_, hf, rfl⟩ := got (hd 3 (by kernel_rfl)) hf
        obtain ⟨_, hf, rfl⟩ := got (hd 6 (by kernel_rfl)) hf
        exact dv_ hK hw (wg (b := false) hf rfl rfl rfl hb23) (r_load_agg ty39 hf rfl (o13.cl.lens (Lens.vec zForm cForm a2 hc24.1 hc24.2)) (cForm.len _)) rfl
    intro ρ w a hw hG hf hd
    obtain ⟨o1, o2, o3, o4, o13, o14⟩ := hG
    obtain ⟨_, hf, rfl⟩ := got (hd 3 (by decide)) hf
    obtain ⟨_, hf, rfl⟩ := got (hd 4 (by decide)) hf
    obtain ⟨_, hf, rfl⟩ := got (hd 7 (by decide)) hf
    refine st_g (b := false) hf rfl rfl rfl hb23 rfl (by decide) (r_eq (d := cForm) eq39 ⟨_, rfl⟩ gt39 hf rfl rfl) fun a hf => ?_
    refine s_ hf (r_pick (b := false) hf rfl hb23 rfl) fun a hf => ?_
    refine s_ hf (r_assign hf rfl) fun a hf => ?_
    refine c_nil ⟨rfl, ?_⟩
    obtain rfl := Option.some.inj hF
    exact ⟨_, hw, hf.sub ⟨rfl, rfl, rfl, rfl, rfl, rfl, rfl, rfl, trivial⟩, o1, o2, o3, o4, o13, o14⟩
  rintro a w ⟨ρ, hw, hf, o1, o2, o3, o4, o13, o14⟩
  have hF := hG21
  refine n_then ?_
  rcases of_ite hF with ⟨hb25, hF⟩ | ⟨hb25, hF⟩
  · refine c_ift hf rfl hb25 <| c_seq <| c_region ?_
    have o15 : Ow (kf cProd) 78 ρ w w0.heap.size 15 (.slice none 0 0) [] := Ow.nil _ _ _ _ _ _
    refine s_ hf (r_build_struct (pl := [(0, 1), (1, 1), (2, 1), (3, 1), (4, 1)]) (vs := []) (res := ([vI 0, vI 0, vI 0, vI 0, (.slice none 0 0)]).toArray) Try.underlying28 (by kernel_rfl) ze28 hf rfl rfl rfl) fun a hf => ?_
    refine sk_ hf (r_store_w (cs' := [vI 0, vI 0, vI 0, vI 0, (.slice none 0 0)]) hw o3 (by decide) ty28 rfl rfl (one_sch o15.ro.one) hf rfl rfl rfl) fun a w hf hΦ => ?_
    obtain ⟨hw, hA, o3⟩ := hΦ
    replace o1 := o1.adv hA (by decide)
    replace o2 := o2.adv hA (by decide)
    replace o4 := o4.adv hA (by decide)
    replace o13 := o13.adv hA (by decide)
    replace o14 := o14.adv hA (by decide)
    replace o15 := o15.adv hA (by decide)
    refine s_ hf (r_assign hf rfl) fun a hf => ?_
    refine c_nt <| c_retc ?_
    obtain rfl := Option.some.inj hF
    refine r_block <| r_then <| c_ret hf (res_ct Try.results26 ty28 hf rfl o3.cl rfl rfl) ?_
    exact ⟨_, rfl, hw.below, ⟨_, rfl, o15.out⟩⟩
  refine c_iff hf rfl hb25 <| c_seq <| c_region ?_
  refine s_ hf (r_fa fa28_4 hf rfl) fun a hf => ?_
  refine s_ hf (r_load_cell ty26 hf rfl (o1.cl.at_ 4 _ rfl)) fun a hf => ?_
  refine s_ hf (r_len Try.underlying26 (h0.now hw) hf rfl) fun a hf => ?_
  refine s_ hf (r_eql hf rfl rfl) fun a hf => ?_
  refine s_ hf (r_assign hf rfl) fun a hf => ?_
  refine c_nt ?_
  rcases of_ite hF with ⟨hb26, hF⟩ | ⟨hb26, hF⟩
  · refine c_ift hf rfl hb26 <| c_seq <| c_region ?_
    have o16 : Ow (kf cProd) 78 ρ w w0.heap.size 16 (.slice none 0 0) [] := Ow.nil _ _ _ _ _ _
    refine s_ hf (r_build_struct (pl := [(0, 1), (1, 1), (2, 1), (3, 1), (4, 1)]) (vs := []) (res := ([vI 0, vI 0, vI 0, vI 0, (.slice none 0 0)]).toArray) Try.underlying28 (by kernel_rfl) ze28 hf rfl rfl rfl) fun a hf => ?_
    refine sk_ hf (r_store_w (cs' := [vI 0, vI 0, vI 0, vI 0, (.slice none 0 0)]) hw o3 (by decide) ty28 rfl rfl (one_sch o16.ro.one) hf rfl rfl rfl) fun a w hf hΦ => ?_
    obtain ⟨hw, hA, o3⟩ := hΦ
    replace o1 := o1.adv hA (by decide)
    replace o2 := o2.adv hA (by decide)
    replace o4 := o4.adv hA (by decide)
    replace o13 := o13.adv hA (by decide)
    replace o14 := o14.adv hA (by decide)
    replace o16 := o16.adv hA (by decide)
    refine s_ hf (r_assign hf rfl) fun a hf => ?_
    refine c_nt <| c_retc ?_
    obtain rfl := Option.some.inj hF
    refine r_block <| r_then <| c_ret hf (res_ct Try.results26 ty28 hf rfl o3.cl rfl rfl) ?_
    exact ⟨_, rfl, hw.below, ⟨_, rfl, o16.out⟩⟩
  refine c_iff hf rfl hb26 <| c_skip <| n_block <| n_then <| c_seq <| c_region ?_
  refine s_ hf (r_move hf rfl) fun a hf => ?_
  refine s_ hf (r_load_agg ty39 hf rfl o2.cl (cForm.len _)) fun a hf => ?_
  obtain ⟨hc27, hF⟩ := of_guard hF
  refine s_ hf (r_indexAddr_arr Try.underlying91 sz39 hf rfl rfl hc27.1 hc27.2) fun a hf => ?_
  refine sk_ hf (r_store_l (b := a3) hw o13 (by decide) (Lens.vec zForm cForm a2 hc27.1 hc27.2) (by simp only [Nat.zero_add] <;> rfl) ty39 hf rfl rfl rfl) fun a w hf hΦ => ?_
  obtain ⟨hw, hA, o13⟩ := hΦ
  replace o1 := o1.adv hA (by decide)
  replace o2 := o2.adv hA (by decide)
  replace o3 := o3.adv hA (by decide)
  replace o4 := o4.adv hA (by decide)
  replace o14 := o14.adv hA (by decide)
  refine c_nt <| c_seq ?_
  obtain ⟨x28, hx29, hF⟩ := of_bind hF
  replace hf : Fr 99 a [(1, vI a1), (2, vI a2), (4, .pointer (some ((⟨g1, 0, none⟩ : Addr).add 0))), (7, .pointer (some ((⟨g2, 0, none⟩ : Addr).add 0))), (8, .pointer (some ((⟨g3, 0, none⟩ : Addr).add 0))), (10, .pointer (some ((⟨g13, 0, none⟩ : Addr).add 0))), (11, .pointer (some ((⟨g14, 0, none⟩ : Addr).add 0)))] := hf.sub ⟨rfl, rfl, rfl, rfl, rfl, rfl, rfl, trivial⟩
  refine c_drawL (h := 11) mixed (by kernel_rfl) (by kernel_rfl) (fun ρ w => Va ρ w 1 g1 28 ([vI a0.p, vI a0.n, vI a0.m, vI a0.k, va0]) ∧ Va ρ w 2 g2 39 (cForm.enc a3) ∧ Va ρ w 3 g3 28 ([vI 0, vI 0, vI 0, vI 0, (.slice none 0 0)]) ∧ O78 ρ w w0 4 (.slice none 0 0) ([] : List Prod) ∧ Va ρ w 13 g13 91 (cForms.enc (vs x19 a2 a3)) ∧ Va ρ w 14 g14 91 (cForms.enc x19)) ?_ [fun ρ w v => vI a2 = v, fun ρ w v => .pointer (some ((⟨g1, 0, none⟩ : Addr).add (0 + 0))) = v, fun ρ w v => vI a0.p = v, fun ρ w v => vI a2 = v, fun ρ w v => .pointer (some ((⟨g14, 0, none⟩ : Addr).add (0 + a2.toNat * 9))) = v, fun ρ w v => .agg (cForm.enc (vg zForm x19 a2)).toArray = v, fun ρ w v => .agg (cForm.enc a3).toArray = v, fun ρ w v => .pointer (some ((⟨g1, 0, none⟩ : Addr).add (0 + 0))) = v, fun ρ w v => vI a0.p = v, fun ρ w v => vI (w64 (a0.p - 1)) = v, fun ρ w v => .agg (cForm.enc x28).toArray = v] ?_ hw ⟨o1, o2, o3, o4, o13, o14⟩ hf ?_ ?_
  · intro ρ w ρ' w' hE hG
    obtain ⟨o1, o2, o3, o4, o13, o14⟩ := hG
    exact ⟨o1.ext hE, o2.ext hE, o3.ext hE, o4.ext hE, o13.ext hE, o14.ext hE⟩
  · exact LastsL.cons (fun _ _ _ _ _ _ h => h) <| LastsL.cons (fun _ _ _ _ _ _ h => h) <| LastsL.cons (fun _ _ _ _ _ _ h => h) <| LastsL.cons (fun _ _ _ _ _ _ h => h) <| LastsL.cons (fun _ _ _ _ _ _ h => h) <| LastsL.cons (fun _ _ _ _ _ _ h => h) <| LastsL.cons (fun _ _ _ _ _ _ h => h) <| LastsL.cons (fun _ _ _ _ _ _ h => h) <| LastsL.cons (fun _ _ _ _ _ _ h => h) <| LastsL.cons (fun _ _ _ _ _ _ h => h) <| LastsL.cons (fun _ _ _ _ _ _ h => h) <| LastsL.nil
  · refine StepsB.cons ?_ <| StepsB.cons ?_ <| StepsB.cons ?_ <| StepsB.cons ?_ <| StepsB.cons ?_ <| StepsB.cons ?_ <| StepsB.cons ?_ <| StepsB.cons ?_ <| StepsB.cons ?_ <| StepsB.cons ?_ <| StepsB.cons ?_ <| StepsB.nil
    · intro ρ w a hw hG hf hd K hK
      obtain ⟨o1, o2, o3, o4, o13, o14⟩ := hG
      exact dv_ hK hw (wn rfl) (r_move hf rfl) rfl
    · intro ρ w a hw hG hf hd K hK
      obtain ⟨o1, o2, o3, o4, o13, o14⟩ := hG
      exact dv_ hK hw (wn rfl) (r_fa fa28_0 hf rfl) rfl
    · intro ρ w a hw hG hf hd K hK
      obtain ⟨o1, o2, o3, o4, o13, o14⟩ := hG
      obtain ⟨_, hf, rfl⟩ := got (hd 1 (by kernel_rfl)) hf
      exact dv_ hK hw (wn rfl) (r_load_cell ty2 hf rfl (o1.cl.at_ 0 _ rfl)) rfl
    · intro ρ w a hw hG hf hd K hK
      obtain ⟨o1, o2, o3, o4, o13, o14⟩ := hG
      exact dv_ hK hw (wn rfl) (r_move hf rfl) rfl
    · intro ρ w a hw hG hf hd K hK
      obtain ⟨o1, o2, o3, o4, o13, o14⟩ := hG
      obtain ⟨_, hf, rfl⟩ := got (hd 3 (by kernel_rfl)) hf
      exact dv_ hK hw (wn rfl) (r_indexAddr_arr Try.underlying91 sz39 hf rfl rfl hc27.1 hc27.2) rfl
    · intro ρ w a hw hG hf hd K hK
      obtain ⟨o1, o2, o3, o4, o13, o14⟩ := hG
      obtain ⟨_, hf, rfl⟩ := got (hd 4 (by kernel_rfl)) hf
      exact dv_ hK hw (wn rfl) (r_load_agg ty39 hf rfl (o14.cl.lens (Lens.vec zForm cForm a2 hc27.1 hc27.2)) (cForm.len _)) rfl
    · intro ρ w a hw hG hf hd K hK
      obtain ⟨o1, o2, o3, o4, o13, o14⟩ := hG
      exact dv_ hK hw (wn rfl) (r_load_agg ty39 hf rfl o2.cl (cForm.len _)) rfl
    · intro ρ w a hw hG hf hd K hK
      obtain ⟨o1, o2, o3, o4, o13, o14⟩ := hG
      exact dv_ hK hw (wn rfl) (r_fa fa28_0 hf rfl) rfl
    · intro ρ w a hw hG hf hd K hK
      obtain ⟨o1, o2, o3, o4, o13, o14⟩ := hG
      obtain ⟨_, hf, rfl⟩ := got (hd 7 (by kernel_rfl)) hf
      exact dv_ hK hw (wn rfl) (r_load_cell ty2 hf rfl (o1.cl.at_ 0 _ rfl)) rfl
    · intro ρ w a hw hG hf hd K hK
      obtain ⟨o1, o2, o3, o4, o13, o14⟩ := hG
      obtain ⟨_, hf, rfl⟩ := got (hd 8 (by kernel_rfl)) hf
      exact dv_ hK hw (wn rfl) (r_sub hf rfl rfl) rfl
    · intro ρ w a hw hG hf hd K hK
      obtain ⟨o1, o2, o3, o4, o13, o14⟩ := hG
      obtain ⟨_, hf, rfl⟩ := got (hd 2 (by kernel_rfl)) hf
      obtain ⟨_, hf, rfl⟩ := got (hd 5 (by kernel_rfl)) hf
      obtain ⟨_, hf, rfl⟩ := got (hd 6 (by kernel_rfl)) hf
      obtain ⟨_, hf, rfl⟩ := got (hd 9 (by kernel_rfl)) hf
      refine dc_ hK hw (wn rfl) (r_fn en77 hf rfl) (impl_sum_ok  hx29) fun v w' hΦ => ?_
      obtain ⟨hb, hΦ⟩ := hΦ
      obtain rfl := hΦ
      have hE := Ext.new (ρ := ρ) 17 hb
      exact ⟨_, hw.new 17 hb, hE, rfl⟩
  intro ρ w a hw hG hf hd
  obtain ⟨o1, o2, o3, o4, o13, o14⟩ := hG
  obtain ⟨_, hf, rfl⟩ := got (hd 0 (by decide)) hf
  obtain ⟨_, hf, rfl⟩ := got (hd 10 (by decide)) hf
  refine s_ hf (r_indexAddr_arr Try.underlying91 sz39 hf rfl rfl hc27.1 hc27.2) fun a hf => ?_
  refine sk_ hf (r_store_l (b := x28) hw o14 (by decide) (Lens.vec zForm cForm a2 hc27.1 hc27.2) (by simp only [Nat.zero_add] <;> rfl) ty39 hf rfl rfl rfl) fun a w hf hΦ => ?_
  obtain ⟨hw, hA, o14⟩ := hΦ
  replace o1 := o1.adv hA (by decide)
  replace o2 := o2.adv hA (by decide)
  replace o3 := o3.adv hA (by decide)
  replace o4 := o4.adv hA (by decide)
  replace o13 := o13.adv hA (by decide)
  refine c_nt <| c_seq <| c_region ?_
  refine s_ hf (r_fa fa28_4 hf rfl) fun a hf => ?_
  refine s_ hf (r_load_cell ty26 hf rfl (o1.cl.at_ 4 _ rfl)) fun a hf => ?_
  obtain ⟨x30, hx31, hF⟩ := of_bind hF
  refine st_fn 18 hw hf rfl rfl (by decide) (r_fn en76 hf rfl) (slices_Clone_76_ok (h0.now hw) hx31) fun a v w ρ hf hw hE hN hΦ => ?_
  obtain ⟨u32, rfl, hr33⟩ := hΦ
  replace o1 := o1.ext hE
  replace o2 := o2.ext hE
  replace o3 := o3.ext hE
  replace o4 := o4.ext hE
  replace o13 := o13.ext hE
  replace o14 := o14.ext hE
  have o18 := hN hr33
  refine s_ hf (r_assign hf rfl) fun a hf => ?_
  refine c_nt <| c_seq <| c_region ?_
  refine s_ hf (r_move hf rfl) fun a hf => ?_
  refine s_ hf (r_move hf rfl) fun a hf => ?_
  refine s_ hf (r_load_agg ty91 hf rfl o13.cl (cForms.len _)) fun a hf => ?_
  obtain ⟨x34, hx35, hF⟩ := of_bind hF
  refine st_fn 19 hw hf rfl rfl (by decide) (r_fn en88 hf rfl) (impl_productOf_ok  hx35) fun a v w ρ hf hw hE hN hΦ => ?_
  obtain rfl := hΦ
  replace o1 := o1.ext hE
  replace o2 := o2.ext hE
  replace o3 := o3.ext hE
  replace o4 := o4.ext hE
  replace o13 := o13.ext hE
  replace o14 := o14.ext hE
  replace o18 := o18.ext hE
  obtain ⟨hc36, hF⟩ := of_guard hF
  obtain ⟨ad37, hl37⟩ := Ow.ce (d := cProd) o18 zProd hc36.1 hc36.2
  refine s_ hf (r_idx Try.underlying26 sz78 hf rfl hl37.at_ rfl hc36.1 hc36.2) fun a hf => ?_
  refine sk_ hf (r_store_ec (b := x34) zProd hw (by decide) o18 hc36.1 hc36.2 (Lens.id _) hl37.at_ ty78 (by first | rfl | exact Nat.add_assoc _ _ _ | (simp only [Nat.add_assoc]; rfl)) hf rfl rfl rfl) fun a w hf hΦ => ?_
  obtain ⟨hw, hA, o18⟩ := hΦ
  replace o1 := o1.adv hA (by decide)
  replace o2 := o2.adv hA (by decide)
  replace o3 := o3.adv hA (by decide)
  replace o4 := o4.adv hA (by decide)
  replace o13 := o13.adv hA (by decide)
  replace o14 := o14.adv hA (by decide)
  refine c_nt <| c_seq ?_
  obtain ⟨x38, hx39, hF⟩ := of_bind hF
  obtain ⟨hc40, hF⟩ := of_guard hF
  replace hf : Fr 99 a [(4, .pointer (some ((⟨g1, 0, none⟩ : Addr).add 0))), (8, .pointer (some ((⟨g3, 0, none⟩ : Addr).add 0))), (11, .pointer (some ((⟨g14, 0, none⟩ : Addr).add 0))), (12, u32)] := hf.sub ⟨rfl, rfl, rfl, rfl, trivial⟩
  refine c_stage 6 [5] mixed (by kernel_rfl) (by kernel_rfl) (fun c ρ w => Va ρ w 1 g1 28 ([vI a0.p, vI a0.n, vI a0.m, vI a0.k, va0]) ∧ Va ρ w 3 g3 28 ([vI 0, vI 0, vI 0, vI 0, (.slice none 0 0)]) ∧ O78 ρ w w0 4 (.slice none 0 0) ([] : List Prod) ∧ Va ρ w 14 g14 91 (cForms.enc (vs x19 a2 x28)) ∧ (c ≤ 0 → O78 ρ w w0 18 u32 (x30.set a1.toNat x34))) ?_ [fun c ρ w v => .agg ([vI a0.p, vI a0.n, vI a0.m, vI a0.k, va0]).toArray = v, fun c ρ w v => u32 = v, fun c ρ w v => .agg (cForms.enc (vs x19 a2 x28)).toArray = v, fun c ρ w v => .agg (cProd.enc x38).toArray = v, fun c ρ w v => ∃ v22, v22 = v ∧ O78 ρ w w0 22 v22 ([x38]), fun c ρ w v => ∃ va41, va41 = v ∧ O78 ρ w w0 18 va41 ((x30.set a1.toNat x34) ++ [x38])] ?_ hw ⟨o1, o3, o4, o14, (fun _ => o18)⟩ hf ?_ ?_
  · intro c ρ w ρ' w' hE hG
    obtain ⟨o1, o3, o4, o14, o18x⟩ := hG
    exact ⟨o1.ext hE, o3.ext hE, o4.ext hE, o14.ext hE, (fun h => (o18x h).ext hE)⟩
  · exact LastsS.cons (fun _ _ _ _ _ _ _ h => h) <| LastsS.cons (fun _ _ _ _ _ _ _ h => h) <| LastsS.cons (fun _ _ _ _ _ _ _ h => h) <| LastsS.cons (fun _ _ _ _ _ _ _ h => h) <| LastsS.cons (fun c _ _ _ _ _ hE h => by obtain ⟨v22, h, o22⟩ := h; exact ⟨_, h, o22.ext hE⟩) <| LastsS.cons (fun c _ _ _ _ _ hE h => by obtain ⟨va41, h, o18⟩ := h; exact ⟨_, h, o18.ext hE⟩) <| LastsS.nil
  · refine StepsS.float rfl ?_ <| StepsS.float rfl ?_ <| StepsS.float rfl ?_ <| StepsS.float rfl ?_ <| StepsS.float rfl ?_ <| StepsS.main 0 rfl rfl ?_ <| StepsS.nil
    · intro c ρ w a hs hw hG hf hd K hK
      obtain ⟨o1, o3, o4, o14, o18x⟩ := hG
      exact dv_ hK hw (wn rfl) (r_load_agg ty28 hf rfl o1.cl rfl) rfl
    · intro c ρ w a hs hw hG hf hd K hK
      obtain ⟨o1, o3, o4, o14, o18x⟩ := hG
      have o18 := o18x (hs 0 (by decide) (by kernel_rfl))
      exact dv_ hK hw (wn rfl) (r_move hf rfl) rfl
    · intro c ρ w a hs hw hG hf hd K hK
      obtain ⟨o1, o3, o4, o14, o18x⟩ := hG
      have o18 := o18x (hs 0 (by decide) (by kernel_rfl))
      exact dv_ hK hw (wn rfl) (r_load_agg ty91 hf rfl o14.cl (cForms.len _)) rfl
    · intro c ρ w a hs hw hG hf hd K hK
      obtain ⟨o1, o3, o4, o14, o18x⟩ := hG
      have o18 := o18x (hs 0 (by decide) (by kernel_rfl))
      obtain ⟨_, ht2, rfl⟩ := hd 2 (by kernel_rfl) (by kernel_rfl)
      replace hf := hf.more ht2
      refine dc_ hK hw (wn rfl) (r_fn en88 hf rfl) (impl_productOf_ok  hx39) fun v w' hΦ => ?_
      obtain ⟨hb, hΦ⟩ := hΦ
      obtain rfl := hΦ
      have hE := Ext.new (ρ := ρ) 21 hb
      exact ⟨_, hw.new 21 hb, hE, rfl⟩
    · intro c ρ w a hs hw hG hf hd K hK
      obtain ⟨o1, o3, o4, o14, o18x⟩ := hG
      have o18 := o18x (hs 0 (by decide) (by kernel_rfl))
      obtain ⟨_, ht3, rfl⟩ := hd 3 (by kernel_rfl) (by kernel_rfl)
      replace hf := hf.more ht3
      refine dx_ hK hw (wn rfl) (r_lit (d := cProd) (xs := ([x38] : List Prod)) (vs := [.agg (cProd.enc x38).toArray]) 22 Try.underlying26 el78 (Nat.le_of_ble_eq_true rfl) (Nat.le_of_ble_eq_true rfl) hw hf rfl rfl rfl) fun v22 w' hΦ => ?_
      obtain ⟨ρ, hw, hE, o22⟩ := hΦ
      exact ⟨_, hw, hE, ex_ <| an_ rfl <| o22⟩
    · intro ρ w a S hw hG hf hS hdep hSi K hK
      obtain ⟨o1, o3, o4, o14, o18x⟩ := hG
      have hfL := hf
      have o18 := o18x (by decide)
      obtain ⟨_, ht1, rfl⟩ := hS 1 (by decide) (hdep 1 (by kernel_rfl)) (by kernel_rfl)
      replace hf := hf.more ht1
      obtain ⟨_, ht4, ⟨v22, rfl, o22⟩⟩ := hS 4 (by decide) (hdep 4 (by kernel_rfl)) (by kernel_rfl)
      replace hf := hf.more ht4
      refine m_val (ms := [5]) (Γ := fun c ρ w => Va ρ w 1 g1 28 ([vI a0.p, vI a0.n, vI a0.m, vI a0.k, va0]) ∧ Va ρ w 3 g3 28 ([vI 0, vI 0, vI 0, vI 0, (.slice none 0 0)]) ∧ O78 ρ w w0 4 (.slice none 0 0) ([] : List Prod) ∧ Va ρ w 14 g14 91 (cForms.enc (vs x19 a2 x28)) ∧ (c ≤ 0 → O78 ρ w w0 18 u32 (x30.set a1.toNat x34))) (Rl := [fun c ρ w v => .agg ([vI a0.p, vI a0.n, vI a0.m, vI a0.k, va0]).toArray = v, fun c ρ w v => u32 = v, fun c ρ w v => .agg (cForms.enc (vs x19 a2 x28)).toArray = v, fun c ρ w v => .agg (cProd.enc x38).toArray = v, fun c ρ w v => ∃ v22, v22 = v ∧ O78 ρ w w0 22 v22 ([x38]), fun c ρ w v => ∃ va41, va41 = v ∧ O78 ρ w w0 18 va41 ((x30.set a1.toNat x34) ++ [x38])]) hfL hS (by decide) rfl (by kernel_rfl) (by kernel_rfl) (wn rfl) rfl (r_append Try.underlying26 el78 hw (by decide) o18 o22.ro hc40 hf rfl rfl) (fun va41 w' hΦ => ?_) hK
      obtain ⟨ρ, hw, hA, o18⟩ := hΦ
      replace o1 := o1.adv hA (by decide)
      replace o3 := o3.adv hA (by decide)
      replace o4 := o4.adv hA (by decide)
      replace o14 := o14.adv hA (by decide)
      replace o22 := o22.adv hA (by decide)
      refine ⟨_, hw, ⟨o1, o3, o4, o14, (fun h => absurd h (by decide))⟩, ?_, ?_⟩
      · exact PassL.cons (fun h => h) <| PassL.cons (fun h => h) <| PassL.cons (fun h => h) <| PassL.cons (fun h => h) <| PassL.cons (fun h => by obtain ⟨_, ht, v22, h, o22⟩ := h; exact ⟨_, ht, _, h, o22.adv hA (by decide)⟩) <| PassL.here <| PassL.nil
      · exact ⟨_, rfl, o18⟩
  intro ρ w a hw hG hf hd
  obtain ⟨o1, o3, o4, o14, o18x⟩ := hG
  obtain ⟨_, hf, rfl⟩ := got (hd 0 (by decide) (by kernel_rfl)) hf
  obtain ⟨_, hf, ⟨va41, rfl, o18⟩⟩ := got (hd 5 (by decide) (by kernel_rfl)) hf
  obtain ⟨x42, hx43, hF⟩ := of_bind hF
  refine st_mfn hf rfl rfl (by decide) (r_fn en78 hf rfl) (impl_with_ok (a0 := a0) (by decide) hw h0 o18 hx43) fun a v w ρ hf hw hA hΦ => ?_
  obtain ⟨u44, rfl, o18⟩ := hΦ
  replace o1 := o1.adv hA (by decide)
  replace o3 := o3.adv hA (by decide)
  replace o4 := o4.adv hA (by decide)
  replace o14 := o14.adv hA (by decide)
  refine sk_ hf (r_store_w (cs' := [vI x42.p, vI x42.n, vI x42.m, vI x42.k, u44]) hw o3 (by decide) ty28 rfl rfl (one_sch o18.ro.one) hf rfl rfl rfl) fun a w hf hΦ => ?_
  obtain ⟨hw, hA, o3⟩ := hΦ
  replace o1 := o1.adv hA (by decide)
  replace o4 := o4.adv hA (by decide)
  replace o14 := o14.adv hA (by decide)
  replace o18 := o18.adv hA (by decide)
  refine s_ hf (r_assign hf rfl) fun a hf => ?_
  refine c_nt <| c_retc ?_
  obtain rfl := Option.some.inj hF
  refine c_ret hf (res_ct Try.results26 ty28 hf rfl o3.cl rfl rfl) ?_
  exact ⟨_, rfl, hw.below, ⟨_, rfl, o18.out⟩⟩
/-! f6 -/
noncomputable def laws_FnExactSplitProduct (a0 : Sch) (a1 : Int) (a2 : Int) (a3 : Form) : Option Bool :=
  (laws_szScheme a0 1048576).bind fun x1 => if (decide (x1 < 0)) = true then (some (true)) else ((laws_toScheme a0).bind fun x4 => (laws_toForm a3).bind fun x8 => (spec_SplitProduct x4 a1 a2 x8).bind fun x10 => (laws_toScheme a0).bind fun x14 => (laws_toForm a3).bind fun x18 => (impl_SplitProduct x14 a1 a2 x18).bind fun x20 => ((laws_eqScheme x20.1 x10.1).bind fun x26 => if (!x26) = true then (some true) else (some (decide (x20.2 ≠ x10.2)))).bind fun (s25 : Bool) => if s25 = true then (some (false)) else ((laws_toScheme a0).bind fun x30 => (laws_eqScheme x14 x30).bind fun x34 => if (!x34) = true then (some (false)) else ((laws_markScheme x14 1).bind fun x37 => (if (decide (x37.1 < 0)) = true then (some true) else ((laws_eqScheme x20.1 x10.1).bind fun x42 => if (!x42) = true then (some true) else (some (decide (x20.2 ≠ x10.2))))).bind fun (s40 : Bool) => if s40 = true then (some (false)) else ((laws_markScheme x20.1 1).bind fun x46 => (laws_heldScheme (⟨x20.1.p, x20.1.n, x20.1.m, x20.1.k, x46.2⟩ : Sch) 1).bind fun x48 => if (decide (x48 < 0)) = true then (some (false)) else (if (decide (x48 ≠ x46.1)) = true then (some (false)) else ((laws_toScheme a0).bind fun x52 => (laws_toForm a3).bind fun x56 => (impl_SplitProduct x52 a1 a2 x56).bind fun x58 => ((laws_eqScheme x58.1 x10.1).bind fun x64 => if (!x64) = true then (some true) else (some (decide (x58.2 ≠ x10.2)))).bind fun (s63 : Bool) => if s63 = true then (some (false)) else ((laws_heldScheme (⟨x20.1.p, x20.1.n, x20.1.m, x20.1.k, x46.2⟩ : Sch) 1).bind fun x68 => if (decide (x68 < 0)) = true then (some (false)) else (if (decide (x68 ≠ x46.1)) = true then (some (false)) else (some (true))))))))))
theorem laws_FnExactSplitProduct_ok {w0 : World} {a0 : Sch} {a1 : Int} {a2 : Int} {a3 : Form} {va0 : Value} (h0 : Ro (kf cProd) w0 va0 a0.ps) {r : Bool} (hF : laws_FnExactSplitProduct a0 a1 a2 a3 = some r) :
    Calls Try.prog 6 [.agg ([vI a0.p, vI a0.n, vI a0.m, vI a0.k, va0]).toArray, vI a1, vI a2, .agg (cForm.enc a3).toArray].toArray w0 fun e w => ∃ v, e = .returned v ∧ Below w0.heap.size w0 w ∧ .bool r = v := by
  refine calls_of (k := 114) Try.func6 rfl rfl (Nat.le_of_ble_eq_true rfl) fun a hf => ?_
  replace hf : Fr 114 a [(0, .agg ([vI a0.p, vI a0.n, vI a0.m, vI a0.k, va0]).toArray), (1, vI a1), (2, vI a2), (3, .agg (cForm.enc a3).toArray)] := hf
  refine c_start fun w ρ hw => ?_
  unfold laws_FnExactSplitProduct at hF
  refine c_seq <| c_region ?_
  refine sx_ hf (r_box (cs := [vI a0.p, vI a0.n, vI a0.m, vI a0.k, va0]) 1 hw hf rfl rfl) fun a v w hf hΦ => ?_
  obtain ⟨g1, ρ, rfl, hw, hE, o1⟩ := hΦ
  refine sx_ hf (r_box (cs := cForm.enc a3) 2 hw hf rfl rfl) fun a v w hf hΦ => ?_
  obtain ⟨g2, ρ, rfl, hw, hE, o2⟩ := hΦ
  replace o1 := o1.ext hE
  refine s_ hf (r_assign hf rfl) fun a hf => ?_
  refine c_nt <| c_seq <| c_region ?_
  refine s_ hf (r_assign hf rfl) fun a hf => ?_
  refine c_nt <| c_seq <| c_region ?_
  refine s_ hf (r_load_agg ty24 hf rfl o1.cl rfl) fun a hf => ?_
  refine s_ hf (r_move hf rfl) fun a hf => ?_
  obtain ⟨x1, hx2, hF⟩ := of_bind hF
  refine st_fn 3 hw hf rfl rfl (by decide) (r_fn en13 hf rfl) (laws_szScheme_ok (a0 := a0) (h0.now hw) hx2) fun a v w ρ hf hw hE hN hΦ => ?_
  obtain rfl := hΦ
  replace o1 := o1.ext hE
  replace o2 := o2.ext hE
  refine s_ hf (r_assign hf rfl) fun a hf => ?_
  refine c_nt <| c_seq <| c_seq <| c_region ?_
  refine s_ hf (r_move hf rfl) fun a hf => ?_
  refine s_ hf (r_lss hf rfl rfl) fun a hf => ?_
  refine c_nt ?_
  rcases of_ite hF with ⟨hb3, hF⟩ | ⟨hb3, hF⟩
  · refine c_ift hf rfl hb3 <| c_seq <| c_region ?_
    refine s_ hf (r_assign hf rfl) fun a hf => ?_
    refine c_nt <| c_retc ?_
    obtain rfl := Option.some.inj hF
    refine r_then <| c_ret hf (res_tmp Try.results6 hf rfl) ?_
    exact ⟨_, rfl, hw.below, rfl⟩
  refine c_iff hf rfl hb3 <| c_skip <| n_then <| c_seq ?_
  obtain ⟨x4, hx5, hF⟩ := of_bind hF
  obtain ⟨x8, hx9, hF⟩ := of_bind hF
  obtain ⟨x10, hx11, hF⟩ := of_bind hF
  replace hf : Fr 114 a [(1, vI a1), (2, vI a2), (4, .pointer (some ((⟨g1, 0, none⟩ : Addr).add 0))), (7, .pointer (some ((⟨g2, 0, none⟩ : Addr).add 0)))] := hf.sub ⟨rfl, rfl, rfl, rfl, trivial⟩
  refine c_stage 12 [11] mixed (by kernel_rfl) (by kernel_rfl) (fun c ρ w => Va ρ w 1 g1 24 ([vI a0.p, vI a0.n, vI a0.m, vI a0.k, va0]) ∧ Va ρ w 2 g2 37 (cForm.enc a3)) ?_ [fun c ρ w v => .agg ([vI a0.p, vI a0.n, vI a0.m, vI a0.k, va0]).toArray = v, fun c ρ w v => ∃ u6, .agg ([vI x4.p, vI x4.n, vI x4.m, vI x4.k, u6]).toArray = v ∧ O78 ρ w w0 4 u6 x4.ps, fun c ρ w v => vI a1 = v, fun c ρ w v => vI a2 = v, fun c ρ w v => .agg (cForm.enc a3).toArray = v, fun c ρ w v => .agg (cForm.enc x8).toArray = v, fun c ρ w v => ∃ u12, .tuple #[.agg ([vI x10.1.p, vI x10.1.n, vI x10.1.m, vI x10.1.k, u12]).toArray, vI x10.2] = v ∧ O78 ρ w w0 6 u12 x10.1.ps, fun c ρ w v => ∃ u12, .tuple #[.agg ([vI x10.1.p, vI x10.1.n, vI x10.1.m, vI x10.1.k, u12]).toArray, vI x10.2] = v ∧ O78 ρ w w0 6 u12 x10.1.ps, fun c ρ w v => ∃ u12, .agg ([vI x10.1.p, vI x10.1.n, vI x10.1.m, vI x10.1.k, u12]).toArray = v ∧ O78 ρ w w0 6 u12 x10.1.ps, fun c ρ w v => vI x10.2 = v, fun c ρ w v => ∃ g7, .pointer (some ((⟨g7, 0, none⟩ : Addr).add 0)) = v ∧ (c ≤ 0 → Va ρ w 7 g7 28 ([vI 0, vI 0, vI 0, vI 0, (.slice none 0 0)])) ∧ (0 < c → ∃ u12, Va ρ w 7 g7 28 ([vI x10.1.p, vI x10.1.n, vI x10.1.m, vI x10.1.k, u12]) ∧ O78 ρ w w0 6 u12 x10.1.ps), fun _ _ _ _ => True] ?_ hw ⟨o1, o2⟩ hf ?_ ?_
  · intro c ρ w ρ' w' hE hG
    obtain ⟨o1, o2⟩ := hG
    exact ⟨o1.ext hE, o2.ext hE⟩
  · exact LastsS.cons (fun _ _ _ _ _ _ _ h => h) <| LastsS.cons (fun c _ _ _ _ _ hE h => by obtain ⟨u6, h, o4⟩ := h; exact ⟨_, h, o4.ext hE⟩) <| LastsS.cons (fun _ _ _ _ _ _ _ h => h) <| LastsS.cons (fun _ _ _ _ _ _ _ h => h) <| LastsS.cons (fun _ _ _ _ _ _ _ h => h) <| LastsS.cons (fun _ _ _ _ _ _ _ h => h) <| LastsS.cons (fun c _ _ _ _ _ hE h => by obtain ⟨u12, h, o6⟩ := h; exact ⟨_, h, o6.ext hE⟩) <| LastsS.cons (fun c _ _ _ _ _ hE h => by obtain ⟨u12, h, o6⟩ := h; exact ⟨_, h, o6.ext hE⟩) <| LastsS.cons (fun c _ _ _ _ _ hE h => by obtain ⟨u12, h, o6⟩ := h; exact ⟨_, h, o6.ext hE⟩) <| LastsS.cons (fun _ _ _ _ _ _ _ h => h) <| LastsS.cons (fun c _ _ _ _ _ hE h => by obtain ⟨g7, h, hx, hy⟩ := h; exact ⟨_, h, fun h => (hx h).ext hE, (fun h => by obtain ⟨u12, o7, o6⟩ := hy h; exact ⟨_, o7.ext hE, o6.ext hE⟩)⟩) <| LastsS.cons (fun _ _ _ _ _ _ _ h => h) <| LastsS.nil
  · refine StepsS.float rfl ?_ <| StepsS.float rfl ?_ <| StepsS.float rfl ?_ <| StepsS.float rfl ?_ <| StepsS.float rfl ?_ <| StepsS.float rfl ?_ <| StepsS.float rfl ?_ <| StepsS.float rfl ?_ <| StepsS.float rfl ?_ <| StepsS.float rfl ?_ <| StepsS.float rfl ?_ <| StepsS.main 0 rfl rfl ?_ <| StepsS.nil
    · intro c ρ w a hs hw hG hf hd K hK
      obtain ⟨o1, o2⟩ := hG
      exact dv_ hK hw (wn rfl) (r_load_agg ty24 hf rfl o1.cl rfl) rfl
    · intro c ρ w a hs hw hG hf hd K hK
      obtain ⟨o1, o2⟩ := hG
      obtain ⟨_, ht0, rfl⟩ := hd 0 (by kernel_rfl) (by kernel_rfl)
      replace hf := hf.more ht0
      refine dc_ hK hw (wn rfl) (r_fn en15 hf rfl) (laws_toScheme_ok (a0 := a0) (h0.now hw) hx5) fun v w' hΦ => ?_
      obtain ⟨hb, hΦ⟩ := hΦ
      obtain ⟨u6, rfl, hr7⟩ := hΦ
      have hE := Ext.new (ρ := ρ) 4 hb
      have o4 := Fresh.own (ρ := ρ) (B := w0.heap.size) hr7 hw.below.size 4
      exact ⟨_, hw.new 4 hb, hE, ex_ <| an_ rfl <| o4⟩
    · intro c ρ w a hs hw hG hf hd K hK
      obtain ⟨o1, o2⟩ := hG
      exact dv_ hK hw (wn rfl) (r_move hf rfl) rfl
    · intro c ρ w a hs hw hG hf hd K hK
      obtain ⟨o1, o2⟩ := hG
      exact dv_ hK hw (wn rfl) (r_move hf rfl) rfl
    · intro c ρ w a hs hw hG hf hd K hK
      obtain ⟨o1, o2⟩ := hG
      exact dv_ hK hw (wn rfl) (r_load_agg ty37 hf rfl o2.cl (cForm.len _)) rfl
    · intro c ρ w a hs hw hG hf hd K hK
      obtain ⟨o1, o2⟩ := hG
      obtain ⟨_, ht4, rfl⟩ := hd 4 (by kernel_rfl) (by kernel_rfl)
      replace hf := hf.more ht4
      refine dc_ hK hw (wn rfl) (r_fn en25 hf rfl) (laws_toForm_ok  hx9) fun v w' hΦ => ?_
      obtain ⟨hb, hΦ⟩ := hΦ
      obtain rfl := hΦ
      have hE := Ext.new (ρ := ρ) 5 hb
      exact ⟨_, hw.new 5 hb, hE, rfl⟩
    · intro c ρ w a hs hw hG hf hd K hK
      obtain ⟨o1, o2⟩ := hG
      obtain ⟨_, ht1, ⟨u6, rfl, o4⟩⟩ := hd 1 (by kernel_rfl) (by kernel_rfl)
      replace hf := hf.more ht1
      obtain ⟨_, ht2, rfl⟩ := hd 2 (by kernel_rfl) (by kernel_rfl)
      replace hf := hf.more ht2
      obtain ⟨_, ht3, rfl⟩ := hd 3 (by kernel_rfl) (by kernel_rfl)
      replace hf := hf.more ht3
      obtain ⟨_, ht5, rfl⟩ := hd 5 (by kernel_rfl) (by kernel_rfl)
      replace hf := hf.more ht5
      refine dc_ hK hw (wn rfl) (r_fn en24 hf rfl) (spec_SplitProduct_ok (a0 := x4) o4.ro hx11) fun v w' hΦ => ?_
      obtain ⟨hb, hΦ⟩ := hΦ
      obtain ⟨u12, rfl, hr13⟩ := hΦ
      have hE := Ext.new (ρ := ρ) 6 hb
      have o6 := Fresh.own (ρ := ρ) (B := w0.heap.size) hr13 hw.below.size 6
      exact ⟨_, hw.new 6 hb, hE, ex_ <| an_ rfl <| o6⟩
    · intro c ρ w a hs hw hG hf hd K hK
      obtain ⟨o1, o2⟩ := hG
      obtain ⟨_, ht6, ⟨u12, rfl, o6⟩⟩ := hd 6 (by kernel_rfl) (by kernel_rfl)
      replace hf := hf.more ht6
      exact dv_ hK hw (wn rfl) (r_move hf rfl) (ex_ <| an_ rfl <| o6)
    · intro c ρ w a hs hw hG hf hd K hK
      obtain ⟨o1, o2⟩ := hG
      obtain ⟨_, ht7, ⟨u12, rfl, o6⟩⟩ := hd 7 (by kernel_rfl) (by kernel_rfl)
      replace hf := hf.more ht7
      exact dv_ hK hw (wn rfl) (r_extract hf rfl rfl) (ex_ <| an_ rfl <| o6)
    · intro c ρ w a hs hw hG hf hd K hK
      obtain ⟨o1, o2⟩ := hG
      obtain ⟨_, ht7, ⟨u12, rfl, o6⟩⟩ := hd 7 (by kernel_rfl) (by kernel_rfl)
      replace hf := hf.more ht7
      exact dv_ hK hw (wn rfl) (r_extract hf rfl rfl) rfl
    · intro c ρ w a hs hw hG hf hd K hK
      obtain ⟨o1, o2⟩ := hG
      have o8 : Ow (kf cProd) 78 ρ w w0.heap.size 8 (.slice none 0 0) [] := Ow.nil _ _ _ _ _ _
      refine dx_ hK hw (wn rfl) (r_alloc (cs := [vI 0, vI 0, vI 0, vI 0, (.slice none 0 0)]) 7 ze28 rfl hw) fun v w' hΦ => ?_
      obtain ⟨g7, ρ, rfl, hw, hE, o7⟩ := hΦ
      exact ⟨_, hw, hE, ex_ <| an_ rfl <| an_ (fun _ => o7) <| fun hc => absurd (hs 0 (by decide) (by kernel_rfl)) (Nat.not_le_of_lt hc)⟩
    · intro ρ w a S hw hG hf hS hdep hSi K hK
      obtain ⟨o1, o2⟩ := hG
      have hfL := hf
      obtain ⟨_, ht8, ⟨u12, rfl, o6⟩⟩ := hS 8 (by decide) (hdep 8 (by kernel_rfl)) (by kernel_rfl)
      replace hf := hf.more ht8
      obtain ⟨_, ht10, g7, rfl, hx10, hy10⟩ := hS 10 (by decide) (hdep 10 (by kernel_rfl)) (by kernel_rfl)
      have o7 := hx10 (by decide)
      replace hf := hf.more ht10
      refine m_skip (Γ := fun c ρ w => Va ρ w 1 g1 24 ([vI a0.p, vI a0.n, vI a0.m, vI a0.k, va0]) ∧ Va ρ w 2 g2 37 (cForm.enc a3)) (Rl := [fun c ρ w v => .agg ([vI a0.p, vI a0.n, vI a0.m, vI a0.k, va0]).toArray = v, fun c ρ w v => ∃ u6, .agg ([vI x4.p, vI x4.n, vI x4.m, vI x4.k, u6]).toArray = v ∧ O78 ρ w w0 4 u6 x4.ps, fun c ρ w v => vI a1 = v, fun c ρ w v => vI a2 = v, fun c ρ w v => .agg (cForm.enc a3).toArray = v, fun c ρ w v => .agg (cForm.enc x8).toArray = v, fun c ρ w v => ∃ u12, .tuple #[.agg ([vI x10.1.p, vI x10.1.n, vI x10.1.m, vI x10.1.k, u12]).toArray, vI x10.2] = v ∧ O78 ρ w w0 6 u12 x10.1.ps, fun c ρ w v => ∃ u12, .tuple #[.agg ([vI x10.1.p, vI x10.1.n, vI x10.1.m, vI x10.1.k, u12]).toArray, vI x10.2] = v ∧ O78 ρ w w0 6 u12 x10.1.ps, fun c ρ w v => ∃ u12, .agg ([vI x10.1.p, vI x10.1.n, vI x10.1.m, vI x10.1.k, u12]).toArray = v ∧ O78 ρ w w0 6 u12 x10.1.ps, fun c ρ w v => vI x10.2 = v, fun c ρ w v => ∃ g7, .pointer (some ((⟨g7, 0, none⟩ : Addr).add 0)) = v ∧ (c ≤ 0 → Va ρ w 7 g7 28 ([vI 0, vI 0, vI 0, vI 0, (.slice none 0 0)])) ∧ (0 < c → ∃ u12, Va ρ w 7 g7 28 ([vI x10.1.p, vI x10.1.n, vI x10.1.m, vI x10.1.k, u12]) ∧ O78 ρ w w0 6 u12 x10.1.ps), fun _ _ _ _ => True]) hfL hS (by kernel_rfl) rfl (wn rfl) (r_store_w (cs' := [vI x10.1.p, vI x10.1.n, vI x10.1.m, vI x10.1.k, u12]) hw o7 (by decide) ty28 rfl rfl (one_sch o6.ro.one) hf rfl rfl rfl) (fun w' hΦ => ?_) hK
      obtain ⟨hw, hA, o7⟩ := hΦ
      replace o1 := o1.adv hA (by decide)
      replace o2 := o2.adv hA (by decide)
      replace o6 := o6.adv hA (by decide)
      refine ⟨_, hw, ⟨o1, o2⟩, ?_⟩
      · exact PassL.cons (fun h => h) <| PassL.cons (fun h => by obtain ⟨_, ht, u6, h, o4⟩ := h; exact ⟨_, ht, _, h, o4.adv hA (by decide)⟩) <| PassL.cons (fun h => h) <| PassL.cons (fun h => h) <| PassL.cons (fun h => h) <| PassL.cons (fun h => h) <| PassL.cons (fun h => by obtain ⟨_, ht, u12, h, o6⟩ := h; exact ⟨_, ht, _, h, o6.adv hA (by decide)⟩) <| PassL.cons (fun h => by obtain ⟨_, ht, u12, h, o6⟩ := h; exact ⟨_, ht, _, h, o6.adv hA (by decide)⟩) <| PassL.cons (fun h => by obtain ⟨_, ht, u12, h, o6⟩ := h; exact ⟨_, ht, _, h, o6.adv hA (by decide)⟩) <| PassL.cons (fun h => h) <| PassL.cons (fun _ => ⟨_, ht10, _, rfl, fun h => absurd h (by decide), fun _ => ⟨_, o7, o6⟩⟩) <| PassL.here <| PassL.nil
  intro ρ w a hw hG hf hd
  obtain ⟨o1, o2⟩ := hG
  obtain ⟨_, hf, rfl⟩ := got (hd 9 (by decide) (by kernel_rfl)) hf
  obtain ⟨_, ht, g7, rfl, hx, hy⟩ := hd 10 (by decide) (by kernel_rfl)
  obtain ⟨u12, o7, o6⟩ := hy (by decide)
  replace hf := hf.more ht
  refine s_ hf (r_assign hf rfl) fun a hf => ?_
  refine c_nt <| c_seq <| c_region ?_
  refine s_ hf (r_load_agg ty24 hf rfl o1.cl rfl) fun a hf => ?_
  obtain ⟨x14, hx15, hF⟩ := of_bind hF
  refine st_fn 9 hw hf rfl rfl (by decide) (r_fn en15 hf rfl) (laws_toScheme_ok (a0 := a0) (h0.now hw) hx15) fun a v w ρ hf hw hE hN hΦ => ?_
  obtain ⟨u16, rfl, hr17⟩ := hΦ
  replace o1 := o1.ext hE
  replace o2 := o2.ext hE
  replace o7 := o7.ext hE
  replace o6 := o6.ext hE
  have o9 := hN hr17
  have o11 : Ow (kf cProd) 78 ρ w w0.heap.size 11 (.slice none 0 0) [] := Ow.nil _ _ _ _ _ _
  refine sx_ hf (r_alloc (cs := [vI 0, vI 0, vI 0, vI 0, (.slice none 0 0)]) 10 ze28 rfl hw) fun a v w hf hΦ => ?_
  obtain ⟨g10, ρ, rfl, hw, hE, o10⟩ := hΦ
  replace o1 := o1.ext hE
  replace o2 := o2.ext hE
  replace o7 := o7.ext hE
  replace o6 := o6.ext hE
  replace o9 := o9.ext hE
  replace o11 := o11.ext hE
  refine sk_ hf (r_store_w (cs' := [vI x14.p, vI x14.n, vI x14.m, vI x14.k, u16]) hw o10 (by decide) ty28 rfl rfl (one_sch o9.ro.one) hf rfl rfl rfl) fun a w hf hΦ => ?_
  obtain ⟨hw, hA, o10⟩ := hΦ
  replace o1 := o1.adv hA (by decide)
  replace o2 := o2.adv hA (by decide)
  replace o7 := o7.adv hA (by decide)
  replace o6 := o6.adv hA (by decide)
  replace o9 := o9.adv hA (by decide)
  replace o11 := o11.adv hA (by decide)
  refine c_nt <| c_seq ?_
  obtain ⟨x18, hx19, hF⟩ := of_bind hF
  obtain ⟨x20, hx21, hF⟩ := of_bind hF
  replace hf : Fr 114 a [(1, vI a1), (2, vI a2), (4, .pointer (some ((⟨g1, 0, none⟩ : Addr).add 0))), (7, .pointer (some ((⟨g2, 0, none⟩ : Addr).add 0))), (10, .pointer (some ((⟨g7, 0, none⟩ : Addr).add 0))), (11, vI x10.2), (12, .pointer (some ((⟨g10, 0, none⟩ : Addr).add 0)))] := hf.sub ⟨rfl, rfl, rfl, rfl, rfl, rfl, rfl, trivial⟩
  refine c_stage 11 [10] mixed (by kernel_rfl) (by kernel_rfl) (fun c ρ w => Va ρ w 1 g1 24 ([vI a0.p, vI a0.n, vI a0.m, vI a0.k, va0]) ∧ Va ρ w 2 g2 37 (cForm.enc a3) ∧ O78 ρ w w0 6 u12 x10.1.ps ∧ Va ρ w 7 g7 28 ([vI x10.1.p, vI x10.1.n, vI x10.1.m, vI x10.1.k, u12]) ∧ O78 ρ w w0 9 u16 x14.ps ∧ Va ρ w 10 g10 28 ([vI x14.p, vI x14.n, vI x14.m, vI x14.k, u16])) ?_ [fun c ρ w v => .agg ([vI x14.p, vI x14.n, vI x14.m, vI x14.k, u16]).toArray = v, fun c ρ w v => vI a1 = v, fun c ρ w v => vI a2 = v, fun c ρ w v => .agg (cForm.enc a3).toArray = v, fun c ρ w v => .agg (cForm.enc x18).toArray = v, fun c ρ w v => ∃ u22, .tuple #[.agg ([vI x20.1.p, vI x20.1.n, vI x20.1.m, vI x20.1.k, u22]).toArray, vI x20.2] = v ∧ O78 ρ w w0 13 u22 x20.1.ps, fun c ρ w v => ∃ u22, .tuple #[.agg ([vI x20.1.p, vI x20.1.n, vI x20.1.m, vI x20.1.k, u22]).toArray, vI x20.2] = v ∧ O78 ρ w w0 13 u22 x20.1.ps, fun c ρ w v => ∃ u22, .agg ([vI x20.1.p, vI x20.1.n, vI x20.1.m, vI x20.1.k, u22]).toArray = v ∧ O78 ρ w w0 13 u22 x20.1.ps, fun c ρ w v => vI x20.2 = v, fun c ρ w v => ∃ g14, .pointer (some ((⟨g14, 0, none⟩ : Addr).add 0)) = v ∧ (c ≤ 0 → Va ρ w 14 g14 28 ([vI 0, vI 0, vI 0, vI 0, (.slice none 0 0)])) ∧ (0 < c → ∃ u22, Va ρ w 14 g14 28 ([vI x20.1.p, vI x20.1.n, vI x20.1.m, vI x20.1.k, u22]) ∧ O78 ρ w w0 13 u22 x20.1.ps), fun _ _ _ _ => True] ?_ hw ⟨o1, o2, o6, o7, o9, o10⟩ hf ?_ ?_
  · intro c ρ w ρ' w' hE hG
    obtain ⟨o1, o2, o6, o7, o9, o10⟩ := hG
    exact ⟨o1.ext hE, o2.ext hE, o6.ext hE, o7.ext hE, o9.ext hE, o10.ext hE⟩
  · exact LastsS.cons (fun _ _ _ _ _ _ _ h => h) <| LastsS.cons (fun _ _ _ _ _ _ _ h => h) <| LastsS.cons (fun _ _ _ _ _ _ _ h => h) <| LastsS.cons (fun _ _ _ _ _ _ _ h => h) <| LastsS.cons (fun _ _ _ _ _ _ _ h => h) <| LastsS.cons (fun c _ _ _ _ _ hE h => by obtain ⟨u22, h, o13⟩ := h; exact ⟨_, h, o13.ext hE⟩) <| LastsS.cons (fun c _ _ _ _ _ hE h => by obtain ⟨u22, h, o13⟩ := h; exact ⟨_, h, o13.ext hE⟩) <| LastsS.cons (fun c _ _ _ _ _ hE h => by obtain ⟨u22, h, o13⟩ := h; exact ⟨_, h, o13.ext hE⟩) <| LastsS.cons (fun _ _ _ _ _ _ _ h => h) <| LastsS.cons (fun c _ _ _ _ _ hE h => by obtain ⟨g14, h, hx, hy⟩ := h; exact ⟨_, h, fun h => (hx h).ext hE, (fun h => by obtain ⟨u22, o14, o13⟩ := hy h; exact ⟨_, o14.ext hE, o13.ext hE⟩)⟩) <| LastsS.cons (fun _ _ _ _ _ _ _ h => h) <| LastsS.nil
  · refine StepsS.float rfl ?_ <| StepsS.float rfl ?_ <| StepsS.float rfl ?_ <| StepsS.float rfl ?_ <| StepsS.float rfl ?_ <| StepsS.float rfl ?_ <| StepsS.float rfl ?_ <| StepsS.float rfl ?_ <| StepsS.float rfl ?_ <| StepsS.float rfl ?_ <| StepsS.main 0 rfl rfl ?_ <| StepsS.nil
    · intro c ρ w a hs hw hG hf hd K hK
      obtain ⟨o1, o2, o6, o7, o9, o10⟩ := hG
      exact dv_ hK hw (wn rfl) (r_load_agg ty28 hf rfl o10.cl rfl) rfl
    · intro c ρ w a hs hw hG hf hd K hK
      obtain ⟨o1, o2, o6, o7, o9, o10⟩ := hG
      exact dv_ hK hw (wn rfl) (r_move hf rfl) rfl
    · intro c ρ w a hs hw hG hf hd K hK
      obtain ⟨o1, o2, o6, o7, o9, o10⟩ := hG
      exact dv_ hK hw (wn rfl) (r_move hf rfl) rfl
    · intro c ρ w a hs hw hG hf hd K hK
      obtain ⟨o1, o2, o6, o7, o9, o10⟩ := hG
      exact dv_ hK hw (wn rfl) (r_load_agg ty37 hf rfl o2.cl (cForm.len _)) rfl
    · intro c ρ w a hs hw hG hf hd K hK
      obtain ⟨o1, o2, o6, o7, o9, o10⟩ := hG
      obtain ⟨_, ht3, rfl⟩ := hd 3 (by kernel_rfl) (by kernel_rfl)
      replace hf := hf.more ht3
      refine dc_ hK hw (wn rfl) (r_fn en25 hf rfl) (laws_toForm_ok  hx19) fun v w' hΦ => ?_
      obtain ⟨hb, hΦ⟩ := hΦ
      obtain rfl := hΦ
      have hE := Ext.new (ρ := ρ) 12 hb
      exact ⟨_, hw.new 12 hb, hE, rfl⟩
    · intro c ρ w a hs hw hG hf hd K hK
      obtain ⟨o1, o2, o6, o7, o9, o10⟩ := hG
      obtain ⟨_, ht0, rfl⟩ := hd 0 (by kernel_rfl) (by kernel_rfl)
      replace hf := hf.more ht0
      obtain ⟨_, ht1, rfl⟩ := hd 1 (by kernel_rfl) (by kernel_rfl)
      replace hf := hf.more ht1
      obtain ⟨_, ht2, rfl⟩ := hd 2 (by kernel_rfl) (by kernel_rfl)
      replace hf := hf.more ht2
      obtain ⟨_, ht4, rfl⟩ := hd 4 (by kernel_rfl) (by kernel_rfl)
      replace hf := hf.more ht4
      refine dc_ hK hw (wn rfl) (r_fn en26 hf rfl) (impl_SplitProduct_ok (a0 := x14) o9.ro hx21) fun v w' hΦ => ?_
      obtain ⟨hb, hΦ⟩ := hΦ
      obtain ⟨u22, rfl, hr23⟩ := hΦ
      have hE := Ext.new (ρ := ρ) 13 hb
      have o13 := Fresh.own (ρ := ρ) (B := w0.heap.size) hr23 hw.below.size 13
      exact ⟨_, hw.new 13 hb, hE, ex_ <| an_ rfl <| o13⟩
    · intro c ρ w a hs hw hG hf hd K hK
      obtain ⟨o1, o2, o6, o7, o9, o10⟩ := hG
      obtain ⟨_, ht5, ⟨u22, rfl, o13⟩⟩ := hd 5 (by kernel_rfl) (by kernel_rfl)
      replace hf := hf.more ht5
      exact dv_ hK hw (wn rfl) (r_move hf rfl) (ex_ <| an_ rfl <| o13)
    · intro c ρ w a hs hw hG hf hd K hK
      obtain ⟨o1, o2, o6, o7, o9, o10⟩ := hG
      obtain ⟨_, ht6, ⟨u22, rfl, o13⟩⟩ := hd 6 (by kernel_rfl) (by kernel_rfl)
      replace hf := hf.more ht6
      exact dv_ hK hw (wn rfl) (r_extract hf rfl rfl) (ex_ <| an_ rfl <| o13)
    · intro c ρ w a hs hw hG hf hd K hK
      obtain ⟨o1, o2, o6, o7, o9, o10⟩ := hG
      obtain ⟨_, ht6, ⟨u22, rfl, o13⟩⟩ := hd 6 (by kernel_rfl) (by kernel_rfl)
      replace hf := hf.more ht6
      exact dv_ hK hw (wn rfl) (r_extract hf rfl rfl) rfl
    · intro c ρ w a hs hw hG hf hd K hK
      obtain ⟨o1, o2, o6, o7, o9, o10⟩ := hG
      have o15 : Ow (kf cProd) 78 ρ w w0.heap.size 15 (.slice none 0 0) [] := Ow.nil _ _ _ _ _ _
      refine dx_ hK hw (wn rfl) (r_alloc (cs := [vI 0, vI 0, vI 0, vI 0, (.slice none 0 0)]) 14 ze28 rfl hw) fun v w' hΦ => ?_
      obtain ⟨g14, ρ, rfl, hw, hE, o14⟩ := hΦ
      exact ⟨_, hw, hE, ex_ <| an_ rfl <| an_ (fun _ => o14) <| fun hc => absurd (hs 0 (by decide) (by kernel_rfl)) (Nat.not_le_of_lt hc)⟩
    · intro ρ w a S hw hG hf hS hdep hSi K hK
      obtain ⟨o1, o2, o6, o7, o9, o10⟩ := hG
      have hfL := hf
      obtain ⟨_, ht7, ⟨u22, rfl, o13⟩⟩ := hS 7 (by decide) (hdep 7 (by kernel_rfl)) (by kernel_rfl)
      replace hf := hf.more ht7
      obtain ⟨_, ht9, g14, rfl, hx9, hy9⟩ := hS 9 (by decide) (hdep 9 (by kernel_rfl)) (by kernel_rfl)
      have o14 := hx9 (by decide)
      replace hf := hf.more ht9
      refine m_skip (Γ := fun c ρ w => Va ρ w 1 g1 24 ([vI a0.p, vI a0.n, vI a0.m, vI a0.k, va0]) ∧ Va ρ w 2 g2 37 (cForm.enc a3) ∧ O78 ρ w w0 6 u12 x10.1.ps ∧ Va ρ w 7 g7 28 ([vI x10.1.p, vI x10.1.n, vI x10.1.m, vI x10.1.k, u12]) ∧ O78 ρ w w0 9 u16 x14.ps ∧ Va ρ w 10 g10 28 ([vI x14.p, vI x14.n, vI x14.m, vI x14.k, u16])) (Rl := [fun c ρ w v => .agg ([vI x14.p, vI x14.n, vI x14.m, vI x14.k, u16]).toArray = v, fun c ρ w v => vI a1 = v, fun c ρ w v => vI a2 = v, fun c ρ w v => .agg (cForm.enc a3).toArray = v, fun c ρ w v => .agg (cForm.enc x18).toArray = v, fun c ρ w v => ∃ u22, .tuple #[.agg ([vI x20.1.p, vI x20.1.n, vI x20.1.m, vI x20.1.k, u22]).toArray, vI x20.2] = v ∧ O78 ρ w w0 13 u22 x20.1.ps, fun c ρ w v => ∃ u22, .tuple #[.agg ([vI x20.1.p, vI x20.1.n, vI x20.1.m, vI x20.1.k, u22]).toArray, vI x20.2] = v ∧ O78 ρ w w0 13 u22 x20.1.ps, fun c ρ w v => ∃ u22, .agg ([vI x20.1.p, vI x20.1.n, vI x20.1.m, vI x20.1.k, u22]).toArray = v ∧ O78 ρ w w0 13 u22 x20.1.ps, fun c ρ w v => vI x20.2 = v, fun c ρ w v => ∃ g14, .pointer (some ((⟨g14, 0, none⟩ : Addr).add 0)) = v ∧ (c ≤ 0 → Va ρ w 14 g14 28 ([vI 0, vI 0, vI 0, vI 0, (.slice none 0 0)])) ∧ (0 < c → ∃ u22, Va ρ w 14 g14 28 ([vI x20.1.p, vI x20.1.n, vI x20.1.m, vI x20.1.k, u22]) ∧ O78 ρ w w0 13 u22 x20.1.ps), fun _ _ _ _ => True]) hfL hS (by kernel_rfl) rfl (wn rfl) (r_store_w (cs' := [vI x20.1.p, vI x20.1.n, vI x20.1.m, vI x20.1.k, u22]) hw o14 (by decide) ty28 rfl rfl (one_sch o13.ro.one) hf rfl rfl rfl) (fun w' hΦ => ?_) hK
      obtain ⟨hw, hA, o14⟩ := hΦ
      replace o1 := o1.adv hA (by decide)
      replace o2 := o2.adv hA (by decide)
      replace o6 := o6.adv hA (by decide)
      replace o7 := o7.adv hA (by decide)
      replace o9 := o9.adv hA (by decide)
      replace o10 := o10.adv hA (by decide)
      replace o13 := o13.adv hA (by decide)
      refine ⟨_, hw, ⟨o1, o2, o6, o7, o9, o10⟩, ?_⟩
      · exact PassL.cons (fun h => h) <| PassL.cons (fun h => h) <| PassL.cons (fun h => h) <| PassL.cons (fun h => h) <| PassL.cons (fun h => h) <| PassL.cons (fun h => by obtain ⟨_, ht, u22, h, o13⟩ := h; exact ⟨_, ht, _, h, o13.adv hA (by decide)⟩) <| PassL.cons (fun h => by obtain ⟨_, ht, u22, h, o13⟩ := h; exact ⟨_, ht, _, h, o13.adv hA (by decide)⟩) <| PassL.cons (fun h => by obtain ⟨_, ht, u22, h, o13⟩ := h; exact ⟨_, ht, _, h, o13.adv hA (by decide)⟩) <| PassL.cons (fun h => h) <| PassL.cons (fun _ => ⟨_, ht9, _, rfl, fun h => absurd h (by decide), fun _ => ⟨_, o14, o13⟩⟩) <| PassL.here <| PassL.nil
  intro ρ w a hw hG hf hd
  obtain ⟨o1, o2, o6, o7, o9, o10⟩ := hG
  obtain ⟨_, hf, rfl⟩ := got (hd 8 (by decide) (by kernel_rfl)) hf
  obtain ⟨_, ht, g14, rfl, hx, hy⟩ := hd 9 (by decide) (by kernel_rfl)
  obtain ⟨u22, o14, o13⟩ := hy (by decide)
  replace hf := hf.more ht
  refine s_ hf (r_assign hf rfl) fun a hf => ?_
  refine c_nt <| c_seq <| c_seq ?_
  obtain ⟨s25, hT24, hG24⟩ := of_bind hF
  clear hF
  refine c_meet (fun (s25 : Bool) a w => ∃ ρ, Wd w0 ρ w ∧ Fr 114 a [(1, vI a1), (2, vI a2), (4, .pointer (some ((⟨g1, 0, none⟩ : Addr).add 0))), (7, .pointer (some ((⟨g2, 0, none⟩ : Addr).add 0))), (10, .pointer (some ((⟨g7, 0, none⟩ : Addr).add 0))), (11, vI x10.2), (12, .pointer (some ((⟨g10, 0, none⟩ : Addr).add 0))), (13, .pointer (some ((⟨g14, 0, none⟩ : Addr).add 0))), (14, vI x20.2), (54, .bool s25)] ∧ Va ρ w 1 g1 24 ([vI a0.p, vI a0.n, vI a0.m, vI a0.k, va0]) ∧ Va ρ w 2 g2 37 (cForm.enc a3) ∧ O78 ρ w w0 6 u12 x10.1.ps ∧ Va ρ w 7 g7 28 ([vI x10.1.p, vI x10.1.n, vI x10.1.m, vI x10.1.k, u12]) ∧ O78 ρ w w0 9 u16 x14.ps ∧ Va ρ w 10 g10 28 ([vI x14.p, vI x14.n, vI x14.m, vI x14.k, u16]) ∧ O78 ρ w w0 13 u22 x20.1.ps ∧ Va ρ w 14 g14 28 ([vI x20.1.p, vI x20.1.n, vI x20.1.m, vI x20.1.k, u22])) s25 ?_ ?_
  · have hF := hT24
    refine c_region ?_
    refine s_ hf (r_load_agg ty28 hf rfl o14.cl rfl) fun a hf => ?_
    refine s_ hf (r_load_agg ty28 hf rfl o7.cl rfl) fun a hf => ?_
    obtain ⟨x26, hx27, hF⟩ := of_bind hF
    refine st_fn 16 hw hf rfl rfl (by decide) (r_fn en17 hf rfl) (laws_eqScheme_ok (a0 := x20.1) (a1 := x10.1) o13.ro o6.ro hx27) fun a v w ρ hf hw hE hN hΦ => ?_
    obtain rfl := hΦ
    replace o1 := o1.ext hE
    replace o2 := o2.ext hE
    replace o6 := o6.ext hE
    replace o7 := o7.ext hE
    replace o9 := o9.ext hE
    replace o10 := o10.ext hE
    replace o14 := o14.ext hE
    replace o13 := o13.ext hE
    refine s_ hf (r_not hf rfl) fun a hf => ?_
    refine s_ hf (r_move hf rfl) fun a hf => ?_
    rcases of_ite hF with ⟨hb28, hF⟩ | ⟨hb28, hF⟩
    · refine st_no (b := true) hf rfl rfl rfl hb28 rfl (by decide) fun a hf => ?_
      refine st_no (b := true) hf rfl rfl rfl hb28 rfl (by decide) fun a hf => ?_
      refine st_no (b := true) hf rfl rfl rfl hb28 rfl (by decide) fun a hf => ?_
      refine s_ hf (r_pick (b := true) hf rfl hb28 rfl) fun a hf => ?_
      refine c_nil ⟨rfl, ?_⟩
      obtain rfl := Option.some.inj hF
      exact ⟨_, hw, hf.sub ⟨rfl, rfl, rfl, rfl, rfl, rfl, rfl, rfl, rfl, rfl, trivial⟩, o1, o2, o6, o7, o9, o10, o13, o14⟩
    refine st_g (b := false) hf rfl rfl rfl hb28 rfl (by decide) (r_move hf rfl) fun a hf => ?_
    refine st_g (b := false) hf rfl rfl rfl hb28 rfl (by decide) (r_move hf rfl) fun a hf => ?_
    refine st_g (b := false) hf rfl rfl rfl hb28 rfl (by decide) (r_neq hf rfl rfl) fun a hf => ?_
    refine s_ hf (r_pick (b := false) hf rfl hb28 rfl) fun a hf => ?_
    refine c_nil ⟨rfl, ?_⟩
    obtain rfl := Option.some.inj hF
    exact ⟨_, hw, hf.sub ⟨rfl, rfl, rfl, rfl, rfl, rfl, rfl, rfl, rfl, rfl, trivial⟩, o1, o2, o6, o7, o9, o10, o13, o14⟩
  rintro a w ⟨ρ, hw, hf, o1, o2, o6, o7, o9, o10, o13, o14⟩
  have hF := hG24
  refine n_then ?_
  rcases of_ite hF with ⟨hb29, hF⟩ | ⟨hb29, hF⟩
  · refine c_ift hf rfl hb29 <| c_seq <| c_region ?_
    refine s_ hf (r_assign hf rfl) fun a hf => ?_
    refine c_nt <| c_retc ?_
    obtain rfl := Option.some.inj hF
    refine r_then <| c_ret hf (res_tmp Try.results6 hf rfl) ?_
    exact ⟨_, rfl, hw.below, rfl⟩
  refine c_iff hf rfl hb29 <| c_skip <| n_then <| c_seq <| c_seq ?_
  obtain ⟨x30, hx31, hF⟩ := of_bind hF
  replace hf : Fr 114 a [(1, vI a1), (2, vI a2), (4, .pointer (some ((⟨g1, 0, none⟩ : Addr).add 0))), (7, .pointer (some ((⟨g2, 0, none⟩ : Addr).add 0))), (10, .pointer (some ((⟨g7, 0, none⟩ : Addr).add 0))), (11, vI x10.2), (12, .pointer (some ((⟨g10, 0, none⟩ : Addr).add 0))), (13, .pointer (some ((⟨g14, 0, none⟩ : Addr).add 0))), (14, vI x20.2)] := hf.sub ⟨rfl, rfl, rfl, rfl, rfl, rfl, rfl, rfl, rfl, trivial⟩
  refine c_drawL (h := 3) mixed (by kernel_rfl) (by kernel_rfl) (fun ρ w => Va ρ w 1 g1 24 ([vI a0.p, vI a0.n, vI a0.m, vI a0.k, va0]) ∧ Va ρ w 2 g2 37 (cForm.enc a3) ∧ O78 ρ w w0 6 u12 x10.1.ps ∧ Va ρ w 7 g7 28 ([vI x10.1.p, vI x10.1.n, vI x10.1.m, vI x10.1.k, u12]) ∧ O78 ρ w w0 9 u16 x14.ps ∧ Va ρ w 10 g10 28 ([vI x14.p, vI x14.n, vI x14.m, vI x14.k, u16]) ∧ O78 ρ w w0 13 u22 x20.1.ps ∧ Va ρ w 14 g14 28 ([vI x20.1.p, vI x20.1.n, vI x20.1.m, vI x20.1.k, u22])) ?_ [fun ρ w v => .agg ([vI x14.p, vI x14.n, vI x14.m, vI x14.k, u16]).toArray = v, fun ρ w v => .agg ([vI a0.p, vI a0.n, vI a0.m, vI a0.k, va0]).toArray = v, fun ρ w v => ∃ u32, .agg ([vI x30.p, vI x30.n, vI x30.m, vI x30.k, u32]).toArray = v ∧ O78 ρ w w0 17 u32 x30.ps] ?_ hw ⟨o1, o2, o6, o7, o9, o10, o13, o14⟩ hf ?_ ?_
  · intro ρ w ρ' w' hE hG
    obtain ⟨o1, o2, o6, o7, o9, o10, o13, o14⟩ := hG
    exact ⟨o1.ext hE, o2.ext hE, o6.ext hE, o7.ext hE, o9.ext hE, o10.ext hE, o13.ext hE, o14.ext hE⟩
  · exact LastsL.cons (fun _ _ _ _ _ _ h => h) <| LastsL.cons (fun _ _ _ _ _ _ h => h) <| LastsL.cons (fun _ _ _ _ _ hE h => by obtain ⟨u32, h, o17⟩ := h; exact ⟨_, h, o17.ext hE⟩) <| LastsL.nil
  · refine StepsB.cons ?_ <| StepsB.cons ?_ <| StepsB.cons ?_ <| StepsB.nil
    · intro ρ w a hw hG hf hd K hK
      obtain ⟨o1, o2, o6, o7, o9, o10, o13, o14⟩ := hG
      exact dv_ hK hw (wn rfl) (r_load_agg ty28 hf rfl o10.cl rfl) rfl
    · intro ρ w a hw hG hf hd K hK
      obtain ⟨o1, o2, o6, o7, o9, o10, o13, o14⟩ := hG
      exact dv_ hK hw (wn rfl) (r_load_agg ty24 hf rfl o1.cl rfl) rfl
    · intro ρ w a hw hG hf hd K hK
      obtain ⟨o1, o2, o6, o7, o9, o10, o13, o14⟩ := hG
      obtain ⟨_, hf, rfl⟩ := got (hd 1 (by kernel_rfl)) hf
      refine dc_ hK hw (wn rfl) (r_fn en15 hf rfl) (laws_toScheme_ok (a0 := a0) (h0.now hw) hx31) fun v w' hΦ => ?_
      obtain ⟨hb, hΦ⟩ := hΦ
      obtain ⟨u32, rfl, hr33⟩ := hΦ
      have hE := Ext.new (ρ := ρ) 17 hb
      have o17 := Fresh.own (ρ := ρ) (B := w0.heap.size) hr33 hw.below.size 17
      exact ⟨_, hw.new 17 hb, hE, ex_ <| an_ rfl <| o17⟩
  intro ρ w a hw hG hf hd
  obtain ⟨o1, o2, o6, o7, o9, o10, o13, o14⟩ := hG
  obtain ⟨_, hf, rfl⟩ := got (hd 0 (by decide)) hf
  obtain ⟨_, hf, ⟨u32, rfl, o17⟩⟩ := got (hd 2 (by decide)) hf
  obtain ⟨x34, hx35, hF⟩ := of_bind hF
  refine st_fn 18 hw hf rfl rfl (by decide) (r_fn en17 hf rfl) (laws_eqScheme_ok (a0 := x14) (a1 := x30) o9.ro o17.ro hx35) fun a v w ρ hf hw hE hN hΦ => ?_
  obtain rfl := hΦ
  replace o1 := o1.ext hE
  replace o2 := o2.ext hE
  replace o6 := o6.ext hE
  replace o7 := o7.ext hE
  replace o9 := o9.ext hE
  replace o10 := o10.ext hE
  replace o13 := o13.ext hE
  replace o14 := o14.ext hE
  replace o17 := o17.ext hE
  refine s_ hf (r_not hf rfl) fun a hf => ?_
  refine c_nt ?_
  rcases of_ite hF with ⟨hb36, hF⟩ | ⟨hb36, hF⟩
  · refine c_ift hf rfl hb36 <| c_seq <| c_region ?_
    refine s_ hf (r_assign hf rfl) fun a hf => ?_
    refine c_nt <| c_retc ?_
    obtain rfl := Option.some.inj hF
    refine r_then <| c_ret hf (res_tmp Try.results6 hf rfl) ?_
    exact ⟨_, rfl, hw.below, rfl⟩
  refine c_iff hf rfl hb36 <| c_skip <| n_then <| c_seq <| c_region ?_
  refine s_ hf (r_assign hf rfl) fun a hf => ?_
  refine c_nt <| c_seq <| c_region ?_
  refine s_ hf (r_load_agg ty28 hf rfl o10.cl rfl) fun a hf => ?_
  refine s_ hf (r_move hf rfl) fun a hf => ?_
  obtain ⟨x37, hx38, hF⟩ := of_bind hF
  refine st_mfn hf rfl rfl (by decide) (r_fn en18 hf rfl) (laws_markScheme_ok (a0 := x14) (by decide) hw o9 hx38) fun a v w ρ hf hw hA hΦ => ?_
  obtain ⟨rfl, o9⟩ := hΦ
  replace o1 := o1.adv hA (by decide)
  replace o2 := o2.adv hA (by decide)
  replace o6 := o6.adv hA (by decide)
  replace o7 := o7.adv hA (by decide)
  replace o10 := o10.adv hA (by decide)
  replace o13 := o13.adv hA (by decide)
  replace o14 := o14.adv hA (by decide)
  replace o17 := o17.adv hA (by decide)
  refine s_ hf (r_assign hf rfl) fun a hf => ?_
  refine c_nt <| c_seq <| c_seq ?_
  obtain ⟨s40, hT39, hG39⟩ := of_bind hF
  clear hF
  refine c_meet (fun (s40 : Bool) a w => ∃ ρ, Wd w0 ρ w ∧ Fr 114 a [(1, vI a1), (2, vI a2), (4, .pointer (some ((⟨g1, 0, none⟩ : Addr).add 0))), (7, .pointer (some ((⟨g2, 0, none⟩ : Addr).add 0))), (10, .pointer (some ((⟨g7, 0, none⟩ : Addr).add 0))), (11, vI x10.2), (13, .pointer (some ((⟨g14, 0, none⟩ : Addr).add 0))), (75, .bool s40)] ∧ Va ρ w 1 g1 24 ([vI a0.p, vI a0.n, vI a0.m, vI a0.k, va0]) ∧ Va ρ w 2 g2 37 (cForm.enc a3) ∧ O78 ρ w w0 6 u12 x10.1.ps ∧ Va ρ w 7 g7 28 ([vI x10.1.p, vI x10.1.n, vI x10.1.m, vI x10.1.k, u12]) ∧ O78 ρ w w0 13 u22 x20.1.ps ∧ Va ρ w 14 g14 28 ([vI x20.1.p, vI x20.1.n, vI x20.1.m, vI x20.1.k, u22])) s40 ?_ ?_
  · have hF := hT39
    refine c_region ?_
    refine s_ hf (r_move hf rfl) fun a hf => ?_
    refine s_ hf (r_lss hf rfl rfl) fun a hf => ?_
    refine s_ hf (r_move hf rfl) fun a hf => ?_
    rcases of_ite hF with ⟨hb41, hF⟩ | ⟨hb41, hF⟩
    · refine st_no (b := true) hf rfl rfl rfl hb41 rfl (by decide) fun a hf => ?_
      refine st_no (b := true) hf rfl rfl rfl hb41 rfl (by decide) fun a hf => ?_
      refine st_no (b := true) hf rfl rfl rfl hb41 rfl (by decide) fun a hf => ?_
      refine st_no (b := true) hf rfl rfl rfl hb41 rfl (by decide) fun a hf => ?_
      refine s_ hf (r_pick (b := true) hf rfl hb41 rfl) fun a hf => ?_
      refine s_ hf (r_move hf rfl) fun a hf => ?_
      refine st_no (b := true) hf rfl rfl rfl rfl rfl (by decide) fun a hf => ?_
      refine st_no (b := true) hf rfl rfl rfl rfl rfl (by decide) fun a hf => ?_
      refine st_no (b := true) hf rfl rfl rfl rfl rfl (by decide) fun a hf => ?_
      refine s_ hf (r_pick (b := true) hf rfl rfl rfl) fun a hf => ?_
      refine c_nil ⟨rfl, ?_⟩
      obtain rfl := Option.some.inj hF
      exact ⟨_, hw, hf.sub ⟨rfl, rfl, rfl, rfl, rfl, rfl, rfl, rfl, trivial⟩, o1, o2, o6, o7, o13, o14⟩
    refine st_g (b := false) hf rfl rfl rfl hb41 rfl (by decide) (r_load_agg ty28 hf rfl o14.cl rfl) fun a hf => ?_
    refine st_g (b := false) hf rfl rfl rfl hb41 rfl (by decide) (r_load_agg ty28 hf rfl o7.cl rfl) fun a hf => ?_
    obtain ⟨x42, hx43, hF⟩ := of_bind hF
    refine st_gfn (b := false) 19 hw hf rfl rfl rfl hb41 rfl (by decide) (r_fn en17 hf rfl) (laws_eqScheme_ok (a0 := x20.1) (a1 := x10.1) o13.ro o6.ro hx43) fun a v w ρ hf hw hE hN hΦ => ?_
    obtain rfl := hΦ
    replace o1 := o1.ext hE
    replace o2 := o2.ext hE
    replace o6 := o6.ext hE
    replace o7 := o7.ext hE
    replace o9 := o9.ext hE
    replace o10 := o10.ext hE
    replace o13 := o13.ext hE
    replace o14 := o14.ext hE
    replace o17 := o17.ext hE
    refine st_g (b := false) hf rfl rfl rfl hb41 rfl (by decide) (r_not hf rfl) fun a hf => ?_
    refine s_ hf (r_pick (b := false) hf rfl hb41 rfl) fun a hf => ?_
    refine s_ hf (r_move hf rfl) fun a hf => ?_
    rcases of_ite hF with ⟨hb44, hF⟩ | ⟨hb44, hF⟩
    · refine st_no (b := true) hf rfl rfl rfl hb44 rfl (by decide) fun a hf => ?_
      refine st_no (b := true) hf rfl rfl rfl hb44 rfl (by decide) fun a hf => ?_
      refine st_no (b := true) hf rfl rfl rfl hb44 rfl (by decide) fun a hf => ?_
      refine s_ hf (r_pick (b := true) hf rfl hb44 rfl) fun a hf => ?_
      refine c_nil ⟨rfl, ?_⟩
      obtain rfl := Option.some.inj hF
      exact ⟨_, hw, hf.sub ⟨rfl, rfl, rfl, rfl, rfl, rfl, rfl, rfl, trivial⟩, o1, o2, o6, o7, o13, o14⟩
    refine st_g (b := false) hf rfl rfl rfl hb44 rfl (by decide) (r_move hf rfl) fun a hf => ?_
    refine st_g (b := false) hf rfl rfl rfl hb44 rfl (by decide) (r_move hf rfl) fun a hf => ?_
    refine st_g (b := false) hf rfl rfl rfl hb44 rfl (by decide) (r_neq hf rfl rfl) fun a hf => ?_
    refine s_ hf (r_pick (b := false) hf rfl hb44 rfl) fun a hf => ?_
    refine c_nil ⟨rfl, ?_⟩
    obtain rfl := Option.some.inj hF
    exact ⟨_, hw, hf.sub ⟨rfl, rfl, rfl, rfl, rfl, rfl, rfl, rfl, trivial⟩, o1, o2, o6, o7, o13, o14⟩
  rintro a w ⟨ρ, hw, hf, o1, o2, o6, o7, o13, o14⟩
  have hF := hG39
  refine n_then ?_
  rcases of_ite hF with ⟨hb45, hF⟩ | ⟨hb45, hF⟩
  · refine c_ift hf rfl hb45 <| c_seq <| c_region ?_
    refine s_ hf (r_assign hf rfl) fun a hf => ?_
    refine c_nt <| c_retc ?_
    obtain rfl := Option.some.inj hF
    refine r_then <| c_ret hf (res_tmp Try.results6 hf rfl) ?_
    exact ⟨_, rfl, hw.below, rfl⟩
  refine c_iff hf rfl hb45 <| c_skip <| n_then <| c_seq <| c_region ?_
  refine s_ hf (r_assign hf rfl) fun a hf => ?_
  refine c_nt <| c_seq <| c_region ?_
  refine s_ hf (r_load_agg ty28 hf rfl o14.cl rfl) fun a hf => ?_
  refine s_ hf (r_move hf rfl) fun a hf => ?_
  obtain ⟨x46, hx47, hF⟩ := of_bind hF
  refine st_mfn hf rfl rfl (by decide) (r_fn en18 hf rfl) (laws_markScheme_ok (a0 := x20.1) (by decide) hw o13 hx47) fun a v w ρ hf hw hA hΦ => ?_
  obtain ⟨rfl, o13⟩ := hΦ
  replace o1 := o1.adv hA (by decide)
  replace o2 := o2.adv hA (by decide)
  replace o6 := o6.adv hA (by decide)
  replace o7 := o7.adv hA (by decide)
  replace o14 := o14.adv hA (by decide)
  refine s_ hf (r_assign hf rfl) fun a hf => ?_
  refine c_nt <| c_seq <| c_region ?_
  refine s_ hf (r_assign hf rfl) fun a hf => ?_
  refine c_nt <| c_seq <| c_region ?_
  refine s_ hf (r_load_agg ty28 hf rfl o14.cl rfl) fun a hf => ?_
  refine s_ hf (r_move hf rfl) fun a hf => ?_
  obtain ⟨x48, hx49, hF⟩ := of_bind hF
  refine st_fn 20 hw hf rfl rfl (by decide) (r_fn en19 hf rfl) (laws_heldScheme_ok (a0 := (⟨x20.1.p, x20.1.n, x20.1.m, x20.1.k, x46.2⟩ : Sch)) o13.ro hx49) fun a v w ρ hf hw hE hN hΦ => ?_
  obtain rfl := hΦ
  replace o1 := o1.ext hE
  replace o2 := o2.ext hE
  replace o6 := o6.ext hE
  replace o7 := o7.ext hE
  replace o13 := o13.ext hE
  replace o14 := o14.ext hE
  refine s_ hf (r_assign hf rfl) fun a hf => ?_
  refine c_nt <| c_seq <| c_seq <| c_region ?_
  refine s_ hf (r_move hf rfl) fun a hf => ?_
  refine s_ hf (r_lss hf rfl rfl) fun a hf => ?_
  refine c_nt ?_
  rcases of_ite hF with ⟨hb50, hF⟩ | ⟨hb50, hF⟩
  · refine c_ift hf rfl hb50 <| c_seq <| c_region ?_
    refine s_ hf (r_assign hf rfl) fun a hf => ?_
    refine c_nt <| c_retc ?_
    obtain rfl := Option.some.inj hF
    refine r_then <| c_ret hf (res_tmp Try.results6 hf rfl) ?_
    exact ⟨_, rfl, hw.below, rfl⟩
  refine c_iff hf rfl hb50 <| c_skip <| n_then <| c_seq <| c_seq <| c_region ?_
  refine s_ hf (r_move hf rfl) fun a hf => ?_
  refine s_ hf (r_move hf rfl) fun a hf => ?_
  refine s_ hf (r_neq hf rfl rfl) fun a hf => ?_
  refine c_nt ?_
  rcases of_ite hF with ⟨hb51, hF⟩ | ⟨hb51, hF⟩
  · refine c_ift hf rfl hb51 <| c_seq <| c_region ?_
    refine s_ hf (r_assign hf rfl) fun a hf => ?_
    refine c_nt <| c_retc ?_
    obtain rfl := Option.some.inj hF
    refine r_then <| c_ret hf (res_tmp Try.results6 hf rfl) ?_
    exact ⟨_, rfl, hw.below, rfl⟩
  refine c_iff hf rfl hb51 <| c_skip <| n_then <| c_seq ?_
  obtain ⟨x52, hx53, hF⟩ := of_bind hF
  obtain ⟨x56, hx57, hF⟩ := of_bind hF
  obtain ⟨x58, hx59, hF⟩ := of_bind hF
  replace hf : Fr 114 a [(1, vI a1), (2, vI a2), (4, .pointer (some ((⟨g1, 0, none⟩ : Addr).add 0))), (7, .pointer (some ((⟨g2, 0, none⟩ : Addr).add 0))), (10, .pointer (some ((⟨g7, 0, none⟩ : Addr).add 0))), (11, vI x10.2), (13, .pointer (some ((⟨g14, 0, none⟩ : Addr).add 0))), (16, vI x46.1)] := hf.sub ⟨rfl, rfl, rfl, rfl, rfl, rfl, rfl, rfl, trivial⟩
  refine c_stage 12 [11] mixed (by kernel_rfl) (by kernel_rfl) (fun c ρ w => Va ρ w 1 g1 24 ([vI a0.p, vI a0.n, vI a0.m, vI a0.k, va0]) ∧ Va ρ w 2 g2 37 (cForm.enc a3) ∧ O78 ρ w w0 6 u12 x10.1.ps ∧ Va ρ w 7 g7 28 ([vI x10.1.p, vI x10.1.n, vI x10.1.m, vI x10.1.k, u12]) ∧ O78 ρ w w0 13 u22 x46.2 ∧ Va ρ w 14 g14 28 ([vI x20.1.p, vI x20.1.n, vI x20.1.m, vI x20.1.k, u22])) ?_ [fun c ρ w v => .agg ([vI a0.p, vI a0.n, vI a0.m, vI a0.k, va0]).toArray = v, fun c ρ w v => ∃ u54, .agg ([vI x52.p, vI x52.n, vI x52.m, vI x52.k, u54]).toArray = v ∧ O78 ρ w w0 21 u54 x52.ps, fun c ρ w v => vI a1 = v, fun c ρ w v => vI a2 = v, fun c ρ w v => .agg (cForm.enc a3).toArray = v, fun c ρ w v => .agg (cForm.enc x56).toArray = v, fun c ρ w v => ∃ u60, .tuple #[.agg ([vI x58.1.p, vI x58.1.n, vI x58.1.m, vI x58.1.k, u60]).toArray, vI x58.2] = v ∧ O78 ρ w w0 23 u60 x58.1.ps, fun c ρ w v => ∃ u60, .tuple #[.agg ([vI x58.1.p, vI x58.1.n, vI x58.1.m, vI x58.1.k, u60]).toArray, vI x58.2] = v ∧ O78 ρ w w0 23 u60 x58.1.ps, fun c ρ w v => ∃ u60, .agg ([vI x58.1.p, vI x58.1.n, vI x58.1.m, vI x58.1.k, u60]).toArray = v ∧ O78 ρ w w0 23 u60 x58.1.ps, fun c ρ w v => vI x58.2 = v, fun c ρ w v => ∃ g24, .pointer (some ((⟨g24, 0, none⟩ : Addr).add 0)) = v ∧ (c ≤ 0 → Va ρ w 24 g24 28 ([vI 0, vI 0, vI 0, vI 0, (.slice none 0 0)])) ∧ (0 < c → ∃ u60, Va ρ w 24 g24 28 ([vI x58.1.p, vI x58.1.n, vI x58.1.m, vI x58.1.k, u60]) ∧ O78 ρ w w0 23 u60 x58.1.ps), fun _ _ _ _ => True] ?_ hw ⟨o1, o2, o6, o7, o13, o14⟩ hf ?_ ?_
  · intro c ρ w ρ' w' hE hG
    obtain ⟨o1, o2, o6, o7, o13, o14⟩ := hG
    exact ⟨o1.ext hE, o2.ext hE, o6.ext hE, o7.ext hE, o13.ext hE, o14.ext hE⟩
  · exact LastsS.cons (fun _ _ _ _ _ _ _ h => h) <| LastsS.cons (fun c _ _ _ _ _ hE h => by obtain ⟨u54, h, o21⟩ := h; exact ⟨_, h, o21.ext hE⟩) <| LastsS.cons (fun _ _ _ _ _ _ _ h => h) <| LastsS.cons (fun _ _ _ _ _ _ _ h => h) <| LastsS.cons (fun _ _ _ _ _ _ _ h => h) <| LastsS.cons (fun _ _ _ _ _ _ _ h => h) <| LastsS.cons (fun c _ _ _ _ _ hE h => by obtain ⟨u60, h, o23⟩ := h; exact ⟨_, h, o23.ext hE⟩) <| LastsS.cons (fun c _ _ _ _ _ hE h => by obtain ⟨u60, h, o23⟩ := h; exact ⟨_, h, o23.ext hE⟩) <| LastsS.cons (fun c _ _ _ _ _ hE h => by obtain ⟨u60, h, o23⟩ := h; exact ⟨_, h, o23.ext hE⟩) <| LastsS.cons (fun _ _ _ _ _ _ _ h => h) <| LastsS.cons (fun c _ _ _ _ _ hE h => by obtain ⟨g24, h, hx, hy⟩ := h; exact ⟨_, h, fun h => (hx h).ext hE, (fun h => by obtain ⟨u60, o24, o23⟩ := hy h; exact ⟨_, o24.ext hE, o23.ext hE⟩)⟩) <| LastsS.cons (fun _ _ _ _ _ _ _ h => h) <| LastsS.nil
  · refine StepsS.float rfl ?_ <| StepsS.float rfl ?_ <| StepsS.float rfl ?_ <| StepsS.float rfl ?_ <| StepsS.float rfl ?_ <| StepsS.float rfl ?_ <| StepsS.float rfl ?_ <| StepsS.float rfl ?_ <| StepsS.float rfl ?_ <| StepsS.float rfl ?_ <| StepsS.float rfl ?_ <| StepsS.main 0 rfl rfl ?_ <| StepsS.nil
    · intro c ρ w a hs hw hG hf hd K hK
      obtain ⟨o1, o2, o6, o7, o13, o14⟩ := hG
      exact dv_ hK hw (wn rfl) (r_load_agg ty24 hf rfl o1.cl rfl) rfl
    · intro c ρ w a hs hw hG hf hd K hK
      obtain ⟨o1, o2, o6, o7, o13, o14⟩ := hG
      obtain ⟨_, ht0, rfl⟩ := hd 0 (by kernel_rfl) (by kernel_rfl)
      replace hf := hf.more ht0
      refine dc_ hK hw (wn rfl) (r_fn en15 hf rfl) (laws_toScheme_ok (a0 := a0) (h0.now hw) hx53) fun v w' hΦ => ?_
      obtain ⟨hb, hΦ⟩ := hΦ
      obtain ⟨u54, rfl, hr55⟩ := hΦ
      have hE := Ext.new (ρ := ρ) 21 hb
      have o21 := Fresh.own (ρ := ρ) (B := w0.heap.size) hr55 hw.below.size 21
      exact ⟨_, hw.new 21 hb, hE, ex_ <| an_ rfl <| o21⟩
    · intro c ρ w a hs hw hG hf hd K hK
      obtain ⟨o1, o2, o6, o7, o13, o14⟩ := hG
      exact dv_ hK hw (wn rfl) (r_move hf rfl) rfl
    · intro c ρ w a hs hw hG hf hd K hK
      obtain ⟨o1, o2, o6, o7, o13, o14⟩ := hG
      exact dv_ hK hw (wn rfl) (r_move hf rfl) rfl
    · intro c ρ w a hs hw hG hf hd K hK
      obtain ⟨o1, o2, o6, o7, o13, o14⟩ := hG
      exact dv_ hK hw (wn rfl) (r_load_agg ty37 hf rfl o2.cl (cForm.len _)) rfl
    · intro c ρ w a hs hw hG hf hd K hK
      obtain ⟨o1, o2, o6, o7, o13, o14⟩ := hG
      obtain ⟨_, ht4, rfl⟩ := hd 4 (by kernel_rfl) (by kernel_rfl)
      replace hf := hf.more ht4
      refine dc_ hK hw (wn rfl) (r_fn en25 hf rfl) (laws_toForm_ok  hx57) fun v w' hΦ => ?_
      obtain ⟨hb, hΦ⟩ := hΦ
      obtain rfl := hΦ
      have hE := Ext.new (ρ := ρ) 22 hb
      exact ⟨_, hw.new 22 hb, hE, rfl⟩
    · intro c ρ w a hs hw hG hf hd K hK
      obtain ⟨o1, o2, o6, o7, o13, o14⟩ := hG
      obtain ⟨_, ht1, ⟨u54, rfl, o21⟩⟩ := hd 1 (by kernel_rfl) (by kernel_rfl)
      replace hf := hf.more ht1
      obtain ⟨_, ht2, rfl⟩ := hd 2 (by kernel_rfl) (by kernel_rfl)
      replace hf := hf.more ht2
      obtain ⟨_, ht3, rfl⟩ := hd 3 (by kernel_rfl) (by kernel_rfl)
      replace hf := hf.more ht3
      obtain ⟨_, ht5, rfl⟩ := hd 5 (by kernel_rfl) (by kernel_rfl)
      replace hf := hf.more ht5
      refine dc_ hK hw (wn rfl) (r_fn en26 hf rfl) (impl_SplitProduct_ok (a0 := x52) o21.ro hx59) fun v w' hΦ => ?_
      obtain ⟨hb, hΦ⟩ := hΦ
      obtain ⟨u60, rfl, hr61⟩ := hΦ
      have hE := Ext.new (ρ := ρ) 23 hb
      have o23 := Fresh.own (ρ := ρ) (B := w0.heap.size) hr61 hw.below.size 23
      exact ⟨_, hw.new 23 hb, hE, ex_ <| an_ rfl <| o23⟩
    · intro c ρ w a hs hw hG hf hd K hK
      obtain ⟨o1, o2, o6, o7, o13, o14⟩ := hG
      obtain ⟨_, ht6, ⟨u60, rfl, o23⟩⟩ := hd 6 (by kernel_rfl) (by kernel_rfl)
      replace hf := hf.more ht6
      exact dv_ hK hw (wn rfl) (r_move hf rfl) (ex_ <| an_ rfl <| o23)
    · intro c ρ w a hs hw hG hf hd K hK
      obtain ⟨o1, o2, o6, o7, o13, o14⟩ := hG
      obtain ⟨_, ht7, ⟨u60, rfl, o23⟩⟩ := hd 7 (by kernel_rfl) (by kernel_rfl)
      replace hf := hf.more ht7
      exact dv_ hK hw (wn rfl) (r_extract hf rfl rfl) (ex_ <| an_ rfl <| o23)
    · intro c ρ w a hs hw hG hf hd K hK
      obtain ⟨o1, o2, o6, o7, o13, o14⟩ := hG
      obtain ⟨_, ht7, ⟨u60, rfl, o23⟩⟩ := hd 7 (by kernel_rfl) (by kernel_rfl)
      replace hf := hf.more ht7
      exact dv_ hK hw (wn rfl) (r_extract hf rfl rfl) rfl
    · intro c ρ w a hs hw hG hf hd K hK
      obtain ⟨o1, o2, o6, o7, o13, o14⟩ := hG
      have o25 : Ow (kf cProd) 78 ρ w w0.heap.size 25 (.slice none 0 0) [] := Ow.nil _ _ _ _ _ _
      refine dx_ hK hw (wn rfl) (r_alloc (cs := [vI 0, vI 0, vI 0, vI 0, (.slice none 0 0)]) 24 ze28 rfl hw) fun v w' hΦ => ?_
      obtain ⟨g24, ρ, rfl, hw, hE, o24⟩ := hΦ
      exact ⟨_, hw, hE, ex_ <| an_ rfl <| an_ (fun _ => o24) <| fun hc => absurd (hs 0 (by decide) (by kernel_rfl)) (Nat.not_le_of_lt hc)⟩
    · intro ρ w a S hw hG hf hS hdep hSi K hK
      obtain ⟨o1, o2, o6, o7, o13, o14⟩ := hG
      have hfL := hf
      obtain ⟨_, ht8, ⟨u60, rfl, o23⟩⟩ := hS 8 (by decide) (hdep 8 (by kernel_rfl)) (by kernel_rfl)
      replace hf := hf.more ht8
      obtain ⟨_, ht10, g24, rfl, hx10, hy10⟩ := hS 10 (by decide) (hdep 10 (by kernel_rfl)) (by kernel_rfl)
      have o24 := hx10 (by decide)
      replace hf := hf.more ht10
      refine m_skip (Γ := fun c ρ w => Va ρ w 1 g1 24 ([vI a0.p, vI a0.n, vI a0.m, vI a0.k, va0]) ∧ Va ρ w 2 g2 37 (cForm.enc a3) ∧ O78 ρ w w0 6 u12 x10.1.ps ∧ Va ρ w 7 g7 28 ([vI x10.1.p, vI x10.1.n, vI x10.1.m, vI x10.1.k, u12]) ∧ O78 ρ w w0 13 u22 x46.2 ∧ Va ρ w 14 g14 28 ([vI x20.1.p, vI x20.1.n, vI x20.1.m, vI x20.1.k, u22])) (Rl := [fun c ρ w v => .agg ([vI a0.p, vI a0.n, vI a0.m, vI a0.k, va0]).toArray = v, fun c ρ w v => ∃ u54, .agg ([vI x52.p, vI x52.n, vI x52.m, vI x52.k, u54]).toArray = v ∧ O78 ρ w w0 21 u54 x52.ps, fun c ρ w v => vI a1 = v, fun c ρ w v => vI a2 = v, fun c ρ w v => .agg (cForm.enc a3).toArray = v, fun c ρ w v => .agg (cForm.enc x56).toArray = v, fun c ρ w v => ∃ u60, .tuple #[.agg ([vI x58.1.p, vI x58.1.n, vI x58.1.m, vI x58.1.k, u60]).toArray, vI x58.2] = v ∧ O78 ρ w w0 23 u60 x58.1.ps, fun c ρ w v => ∃ u60, .tuple #[.agg ([vI x58.1.p, vI x58.1.n, vI x58.1.m, vI x58.1.k, u60]).toArray, vI x58.2] = v ∧ O78 ρ w w0 23 u60 x58.1.ps, fun c ρ w v => ∃ u60, .agg ([vI x58.1.p, vI x58.1.n, vI x58.1.m, vI x58.1.k, u60]).toArray = v ∧ O78 ρ w w0 23 u60 x58.1.ps, fun c ρ w v => vI x58.2 = v, fun c ρ w v => ∃ g24, .pointer (some ((⟨g24, 0, none⟩ : Addr).add 0)) = v ∧ (c ≤ 0 → Va ρ w 24 g24 28 ([vI 0, vI 0, vI 0, vI 0, (.slice none 0 0)])) ∧ (0 < c → ∃ u60, Va ρ w 24 g24 28 ([vI x58.1.p, vI x58.1.n, vI x58.1.m, vI x58.1.k, u60]) ∧ O78 ρ w w0 23 u60 x58.1.ps), fun _ _ _ _ => True]) hfL hS (by kernel_rfl) rfl (wn rfl) (r_store_w (cs' := [vI x58.1.p, vI x58.1.n, vI x58.1.m, vI x58.1.k, u60]) hw o24 (by decide) ty28 rfl rfl (one_sch o23.ro.one) hf rfl rfl rfl) (fun w' hΦ => ?_) hK
      obtain ⟨hw, hA, o24⟩ := hΦ
      replace o1 := o1.adv hA (by decide)
      replace o2 := o2.adv hA (by decide)
      replace o6 := o6.adv hA (by decide)
      replace o7 := o7.adv hA (by decide)
      replace o13 := o13.adv hA (by decide)
      replace o14 := o14.adv hA (by decide)
      replace o23 := o23.adv hA (by decide)
      refine ⟨_, hw, ⟨o1, o2, o6, o7, o13, o14⟩, ?_⟩
      · exact PassL.cons (fun h => h) <| PassL.cons (fun h => by obtain ⟨_, ht, u54, h, o21⟩ := h; exact ⟨_, ht, _, h, o21.adv hA (by decide)⟩) <| PassL.cons (fun h => h) <| PassL.cons (fun h => h) <| PassL.cons (fun h => h) <| PassL.cons (fun h => h) <| PassL.cons (fun h => by obtain ⟨_, ht, u60, h, o23⟩ := h; exact ⟨_, ht, _, h, o23.adv hA (by decide)⟩) <| PassL.cons (fun h => by obtain ⟨_, ht, u60, h, o23⟩ := h; exact ⟨_, ht, _, h, o23.adv hA (by decide)⟩) <| PassL.cons (fun h => by obtain ⟨_, ht, u60, h, o23⟩ := h; exact ⟨_, ht, _, h, o23.adv hA (by decide)⟩) <| PassL.cons (fun h => h) <| PassL.cons (fun _ => ⟨_, ht10, _, rfl, fun h => absurd h (by decide), fun _ => ⟨_, o24, o23⟩⟩) <| PassL.here <| PassL.nil
  intro ρ w a hw hG hf hd
  obtain ⟨o1, o2, o6, o7, o13, o14⟩ := hG
  obtain ⟨_, hf, rfl⟩ := got (hd 9 (by decide) (by kernel_rfl)) hf
  obtain ⟨_, ht, g24, rfl, hx, hy⟩ := hd 10 (by decide) (by kernel_rfl)
  obtain ⟨u60, o24, o23⟩ := hy (by decide)
  replace hf := hf.more ht
  refine s_ hf (r_assign hf rfl) fun a hf => ?_
  refine c_nt <| c_seq <| c_seq ?_
  obtain ⟨s63, hT62, hG62⟩ := of_bind hF
  clear hF
  refine c_meet (fun (s63 : Bool) a w => ∃ ρ, Wd w0 ρ w ∧ Fr 114 a [(13, .pointer (some ((⟨g14, 0, none⟩ : Addr).add 0))), (16, vI x46.1), (105, .bool s63)] ∧ O78 ρ w w0 13 u22 x46.2 ∧ Va ρ w 14 g14 28 ([vI x20.1.p, vI x20.1.n, vI x20.1.m, vI x20.1.k, u22])) s63 ?_ ?_
  · have hF := hT62
    refine c_region ?_
    refine s_ hf (r_load_agg ty28 hf rfl o24.cl rfl) fun a hf => ?_
    refine s_ hf (r_load_agg ty28 hf rfl o7.cl rfl) fun a hf => ?_
    obtain ⟨x64, hx65, hF⟩ := of_bind hF
    refine st_fn 26 hw hf rfl rfl (by decide) (r_fn en17 hf rfl) (laws_eqScheme_ok (a0 := x58.1) (a1 := x10.1) o23.ro o6.ro hx65) fun a v w ρ hf hw hE hN hΦ => ?_
    obtain rfl := hΦ
    replace o1 := o1.ext hE
    replace o2 := o2.ext hE
    replace o6 := o6.ext hE
    replace o7 := o7.ext hE
    replace o13 := o13.ext hE
    replace o14 := o14.ext hE
    replace o24 := o24.ext hE
    replace o23 := o23.ext hE
    refine s_ hf (r_not hf rfl) fun a hf => ?_
    refine s_ hf (r_move hf rfl) fun a hf => ?_
    rcases of_ite hF with ⟨hb66, hF⟩ | ⟨hb66, hF⟩
    · refine st_no (b := true) hf rfl rfl rfl hb66 rfl (by decide) fun a hf => ?_
      refine st_no (b := true) hf rfl rfl rfl hb66 rfl (by decide) fun a hf => ?_
      refine st_no (b := true) hf rfl rfl rfl hb66 rfl (by decide) fun a hf => ?_
      refine s_ hf (r_pick (b := true) hf rfl hb66 rfl) fun a hf => ?_
      refine c_nil ⟨rfl, ?_⟩
      obtain rfl := Option.some.inj hF
      exact ⟨_, hw, hf.sub ⟨rfl, rfl, rfl, trivial⟩, o13, o14⟩
    refine st_g (b := false) hf rfl rfl rfl hb66 rfl (by decide) (r_move hf rfl) fun a hf => ?_
    refine st_g (b := false) hf rfl rfl rfl hb66 rfl (by decide) (r_move hf rfl) fun a hf => ?_
    refine st_g (b := false) hf rfl rfl rfl hb66 rfl (by decide) (r_neq hf rfl rfl) fun a hf => ?_
    refine s_ hf (r_pick (b := false) hf rfl hb66 rfl) fun a hf => ?_
    refine c_nil ⟨rfl, ?_⟩
    obtain rfl := Option.some.inj hF
    exact ⟨_, hw, hf.sub ⟨rfl, rfl, rfl, trivial⟩, o13, o14⟩
  rintro a w ⟨ρ, hw, hf, o13, o14⟩
  have hF := hG62
  refine n_then ?_
  rcases of_ite hF with ⟨hb67, hF⟩ | ⟨hb67, hF⟩
  · refine c_ift hf rfl hb67 <| c_seq <| c_region ?_
    refine s_ hf (r_assign hf rfl) fun a hf => ?_
    refine c_nt <| c_retc ?_
    obtain rfl := Option.some.inj hF
    refine r_then <| c_ret hf (res_tmp Try.results6 hf rfl) ?_
    exact ⟨_, rfl, hw.below, rfl⟩
  refine c_iff hf rfl hb67 <| c_skip <| n_then <| c_seq <| c_region ?_
  refine s_ hf (r_assign hf rfl) fun a hf => ?_
  refine c_nt <| c_seq <| c_region ?_
  refine s_ hf (r_load_agg ty28 hf rfl o14.cl rfl) fun a hf => ?_
  refine s_ hf (r_move hf rfl) fun a hf => ?_
  obtain ⟨x68, hx69, hF⟩ := of_bind hF
  refine st_fn 27 hw hf rfl rfl (by decide) (r_fn en19 hf rfl) (laws_heldScheme_ok (a0 := (⟨x20.1.p, x20.1.n, x20.1.m, x20.1.k, x46.2⟩ : Sch)) o13.ro hx69) fun a v w ρ hf hw hE hN hΦ => ?_
  obtain rfl := hΦ
  replace o13 := o13.ext hE
  replace o14 := o14.ext hE
  refine s_ hf (r_assign hf rfl) fun a hf => ?_
  refine c_nt <| c_seq <| c_seq <| c_region ?_
  refine s_ hf (r_move hf rfl) fun a hf => ?_
  refine s_ hf (r_lss hf rfl rfl) fun a hf => ?_
  refine c_nt ?_
  rcases of_ite hF with ⟨hb70, hF⟩ | ⟨hb70, hF⟩
  · refine c_ift hf rfl hb70 <| c_seq <| c_region ?_
    refine s_ hf (r_assign hf rfl) fun a hf => ?_
    refine c_nt <| c_retc ?_
    obtain rfl := Option.some.inj hF
    refine r_then <| c_ret hf (res_tmp Try.results6 hf rfl) ?_
    exact ⟨_, rfl, hw.below, rfl⟩
  refine c_iff hf rfl hb70 <| c_skip <| n_then <| c_seq <| c_seq <| c_region ?_
  refine s_ hf (r_move hf rfl) fun a hf => ?_
  refine s_ hf (r_move hf rfl) fun a hf => ?_
  refine s_ hf (r_neq hf rfl rfl) fun a hf => ?_
  refine c_nt ?_
  rcases of_ite hF with ⟨hb71, hF⟩ | ⟨hb71, hF⟩
  · refine c_ift hf rfl hb71 <| c_seq <| c_region ?_
    refine s_ hf (r_assign hf rfl) fun a hf => ?_
    refine c_nt <| c_retc ?_
    obtain rfl := Option.some.inj hF
    refine r_then <| c_ret hf (res_tmp Try.results6 hf rfl) ?_
    exact ⟨_, rfl, hw.below, rfl⟩
  refine c_iff hf rfl hb71 <| c_skip <| n_then <| c_seq <| c_region ?_
  refine s_ hf (r_assign hf rfl) fun a hf => ?_
  refine c_nt <| c_retc ?_
  obtain rfl := Option.some.inj hF
  refine c_ret hf (res_tmp Try.results6 hf rfl) ?_
  exact ⟨_, rfl, hw.below, rfl⟩
end Go.Proofs.YtB
