/- Functions of the program as plain functions, and that they compute these. Printed by gen.py. -/
import Derived.Test.YtaaghemmkbgldaaFpG1
set_option linter.unusedVariables false
set_option linter.unusedSimpArgs false
set_option maxRecDepth 4000
set_option maxHeartbeats 1000000
namespace Go.Proofs.YtB
open Go Go.RowKit Go.Proofs Go.Proofs.YtaaghemmkbgldaaW.PrintWords
/-! f63 -/
noncomputable def spec_l02Joined (a0 : Sch) (a1 : Sch) (a2 : Int) : Option (Sch × Int) :=
  ((spec_l01Is a0).bind fun x3 => if (!x3) = true then (some true) else ((spec_l01Is a1).bind fun x6 => some (!x6))).bind fun (s2 : Bool) => if s2 = true then (some (((⟨0, 0, 0, 0, ([] : List Prod)⟩ : Sch), 1))) else ((if (decide (a0.p ≠ a1.p)) = true then (some true) else (if (decide (a2 ≠ 0)) = true then (if (decide (a0.n ≠ a1.n)) = true then (some true) else (if (decide (a2 ≠ 1)) = true then (if (decide (a0.m ≠ a1.m)) = true then (some true) else (if (decide (a2 ≠ 2)) = true then (some (decide (a0.k ≠ a1.k))) else (some false))) else (if (decide (a2 ≠ 2)) = true then (some (decide (a0.k ≠ a1.k))) else (some false)))) else (if (decide (a2 ≠ 1)) = true then (if (decide (a0.m ≠ a1.m)) = true then (some true) else (if (decide (a2 ≠ 2)) = true then (some (decide (a0.k ≠ a1.k))) else (some false))) else (if (decide (a2 ≠ 2)) = true then (some (decide (a0.k ≠ a1.k))) else (some false))))).bind fun (s10 : Bool) => if s10 = true then (some (((⟨0, 0, 0, 0, ([] : List Prod)⟩ : Sch), 2))) else ((if 0 ≤ a2 ∧ a2 < (([w64 (a0.n + a1.n), w64 (a0.m + a1.m), w64 (a0.k + a1.k)]).length : Int) then (if (decide (3 < (gl 0 ([w64 (a0.n + a1.n), w64 (a0.m + a1.m), w64 (a0.k + a1.k)]) a2))) = true then (some true) else (some (decide (30 < (w64 ((a0.ps.length : Int) + (a1.ps.length : Int))))))) else none).bind fun (s24 : Bool) => if s24 = true then (some (((⟨0, 0, 0, 0, ([] : List Prod)⟩ : Sch), 3))) else ((spec_l02Join a0 a1 a2).bind fun x29 => some ((x29, 0)))))
theorem spec_l02Joined_ok {w0 : World} {a0 : Sch} {a1 : Sch} {a2 : Int} {va0 : Value} {va1 : Value} (h0 : Ro (kf cProd) w0 va0 a0.ps) (h1 : Ro (kf cProd) w0 va1 a1.ps) {r : Sch × Int} (hF : spec_l02Joined a0 a1 a2 = some r) :
    Calls Try.prog 63 [.agg ([.int .i64 a0.p, .int .i64 a0.n, .int .i64 a0.m, .int .i64 a0.k, va0]).toArray, .agg ([.int .i64 a1.p, .int .i64 a1.n, .int .i64 a1.m, .int .i64 a1.k, va1]).toArray, .int .i64 a2].toArray w0 fun e w => ∃ v, e = .returned v ∧ Below w0.heap.size w0 w ∧ ∃ u0, .tuple #[.agg [.int .i64 r.1.p, .int .i64 r.1.n, .int .i64 r.1.m, .int .i64 r.1.k, u0].toArray, .int .i64 r.2] = v ∧ Fresh (kf cProd) 78 w0 w u0 r.1.ps := by
  refine calls_of (k := 93) Try.func63 rfl rfl (Nat.le_of_ble_eq_true rfl) fun a hf => ?_
  replace hf : Fr 93 a [(0, .agg ([.int .i64 a0.p, .int .i64 a0.n, .int .i64 a0.m, .int .i64 a0.k, va0]).toArray), (1, .agg ([.int .i64 a1.p, .int .i64 a1.n, .int .i64 a1.m, .int .i64 a1.k, va1]).toArray), (2, .int .i64 a2)] := hf
  refine c_start fun w ρ hw => ?_
  unfold spec_l02Joined at hF
  refine c_seq ?_
  refine c_region ?_
  refine st_ex hf rfl rfl (by decide) (r_box (cs := [.int .i64 a0.p, .int .i64 a0.n, .int .i64 a0.m, .int .i64 a0.k, va0]) 1 hw hf rfl rfl) fun a v w hf hΦ => ?_
  obtain ⟨g1, ρ, rfl, hw, hE, o1⟩ := hΦ
  refine st_ex hf rfl rfl (by decide) (r_box (cs := [.int .i64 a1.p, .int .i64 a1.n, .int .i64 a1.m, .int .i64 a1.k, va1]) 2 hw hf rfl rfl) fun a v w hf hΦ => ?_
  obtain ⟨g2, ρ, rfl, hw, hE, o2⟩ := hΦ
  replace o1 := o1.ext hE
  have o4 : Ow (kf cProd) 78 ρ w w0.heap.size 4 (.slice none 0 0) [] := Ow.nil _ _ _ _ _ _
  refine st_ex hf rfl rfl (by decide) (r_alloc (cs := [.int .i64 0, .int .i64 0, .int .i64 0, .int .i64 0, (.slice none 0 0)]) 3 ze28 rfl hw) fun a v w hf hΦ => ?_
  obtain ⟨g3, ρ, rfl, hw, hE, o3⟩ := hΦ
  replace o1 := o1.ext hE
  replace o2 := o2.ext hE
  replace o4 := o4.ext hE
  refine st hf rfl rfl (by decide) (r_assign hf rfl) fun a hf => ?_
  refine c_nt ?_
  refine c_seq ?_
  refine c_seq ?_
  obtain ⟨s2, hT1, hG1⟩ := of_bind hF
  clear hF
  refine c_meet (fun (s : Bool) a w => ∃ ρ, Wd w0 ρ w ∧ Fr 93 a [(2, .int .i64 a2), (3, .pointer (some ((⟨g1, 0, none⟩ : Addr).add 0))), (4, .pointer (some ((⟨g2, 0, none⟩ : Addr).add 0))), (6, .pointer (some ((⟨g3, 0, none⟩ : Addr).add 0))), (16, .bool s)] ∧ Va ρ w 1 g1 28 ([.int .i64 a0.p, .int .i64 a0.n, .int .i64 a0.m, .int .i64 a0.k, va0]) ∧ Va ρ w 2 g2 28 ([.int .i64 a1.p, .int .i64 a1.n, .int .i64 a1.m, .int .i64 a1.k, va1]) ∧ Va ρ w 3 g3 28 ([.int .i64 0, .int .i64 0, .int .i64 0, .int .i64 0, (.slice none 0 0)]) ∧ Ow (kf cProd) 78 ρ w w0.heap.size 4 (.slice none 0 0) ([] : List Prod)) s2 ?_ ?_
  · have hF := hT1
    refine c_region ?_
    refine st hf rfl rfl (by decide) (r_load_agg ty28 hf rfl o1.cl rfl) fun a hf => ?_
    obtain ⟨x3, hx4, hF⟩ := of_bind hF
    refine st_fn 5 hw hf rfl rfl (by decide) (r_fn en69 hf rfl) (spec_l01Is_ok (a0 := a0) (h0.now hw) hx4) fun a v w ρ hf hw hE hN hΦ => ?_
    obtain rfl := hΦ
    replace o1 := o1.ext hE
    replace o2 := o2.ext hE
    replace o4 := o4.ext hE
    replace o3 := o3.ext hE
    refine st hf rfl rfl (by decide) (r_not hf rfl) fun a hf => ?_
    refine st hf rfl rfl (by decide) (r_move hf rfl) fun a hf => ?_
    rcases of_ite hF with ⟨hb5, hF⟩ | ⟨hb5, hF⟩
    · refine st_no (b := true) hf rfl rfl rfl hb5 rfl (by decide) fun a hf => ?_
      refine st_no (b := true) hf rfl rfl rfl hb5 rfl (by decide) fun a hf => ?_
      refine st_no (b := true) hf rfl rfl rfl hb5 rfl (by decide) fun a hf => ?_
      refine st hf rfl rfl (by decide) (r_pick (b := true) hf rfl hb5 rfl) fun a hf => ?_
      refine c_nil ⟨rfl, ?_⟩
      obtain rfl := Option.some.inj hF
      exact ⟨_, hw, hf.sub ⟨rfl, rfl, rfl, rfl, rfl, trivial⟩, o1, o2, o3, o4⟩
    · refine st_g (b := false) hf rfl rfl rfl hb5 rfl (by decide) (r_load_agg ty28 hf rfl o2.cl rfl) fun a hf => ?_
      obtain ⟨x6, hx7, hF⟩ := of_bind hF
      refine st_gfn (b := false) 6 hw hf rfl rfl rfl hb5 rfl (by decide) (r_fn en69 hf rfl) (spec_l01Is_ok (a0 := a1) (h1.now hw) hx7) fun a v w ρ hf hw hE hN hΦ => ?_
      obtain rfl := hΦ
      replace o1 := o1.ext hE
      replace o2 := o2.ext hE
      replace o4 := o4.ext hE
      replace o3 := o3.ext hE
      refine st_g (b := false) hf rfl rfl rfl hb5 rfl (by decide) (r_not hf rfl) fun a hf => ?_
      refine st hf rfl rfl (by decide) (r_pick (b := false) hf rfl hb5 rfl) fun a hf => ?_
      refine c_nil ⟨rfl, ?_⟩
      obtain rfl := Option.some.inj hF
      exact ⟨_, hw, hf.sub ⟨rfl, rfl, rfl, rfl, rfl, trivial⟩, o1, o2, o3, o4⟩
  · rintro a w ⟨ρ, hw, hf, o1, o2, o3, o4⟩
    replace hf : Fr 93 a [(2, .int .i64 a2), (3, .pointer (some ((⟨g1, 0, none⟩ : Addr).add 0))), (4, .pointer (some ((⟨g2, 0, none⟩ : Addr).add 0))), (6, .pointer (some ((⟨g3, 0, none⟩ : Addr).add 0))), (16, .bool s2)] := hf
    replace o1 : Va ρ w 1 g1 28 ([.int .i64 a0.p, .int .i64 a0.n, .int .i64 a0.m, .int .i64 a0.k, va0]) := o1
    replace o2 : Va ρ w 2 g2 28 ([.int .i64 a1.p, .int .i64 a1.n, .int .i64 a1.m, .int .i64 a1.k, va1]) := o2
    replace o3 : Va ρ w 3 g3 28 ([.int .i64 0, .int .i64 0, .int .i64 0, .int .i64 0, (.slice none 0 0)]) := o3
    replace o4 : Ow (kf cProd) 78 ρ w w0.heap.size 4 (.slice none 0 0) ([] : List Prod) := o4
    have hF := hG1
    refine n_then ?_
    rcases of_ite hF with ⟨hb8, hF⟩ | ⟨hb8, hF⟩
    · refine c_ift hf rfl hb8 ?_
      refine c_seq ?_
      refine c_region ?_
      have o7 : Ow (kf cProd) 78 ρ w w0.heap.size 7 (.slice none 0 0) [] := Ow.nil _ _ _ _ _ _
      refine st hf rfl rfl (by decide) (r_build_struct (pl := [(0, 1), (1, 1), (2, 1), (3, 1), (4, 1)]) (vs := []) (res := ([.int .i64 0, .int .i64 0, .int .i64 0, .int .i64 0, (.slice none 0 0)]).toArray) Try.underlying28 (by kernel_rfl) ze28 hf rfl rfl rfl) fun a hf => ?_
      refine st_skip hf rfl rfl (r_store_w (cs' := [.int .i64 0, .int .i64 0, .int .i64 0, .int .i64 0, (.slice none 0 0)]) hw o3 (by decide) ty28 rfl rfl (one_sch o7.ro.one) hf rfl rfl rfl) fun a w hf hΦ => ?_
      obtain ⟨hw, hA, o3⟩ := hΦ
      replace o1 := o1.adv hA (by decide)
      replace o2 := o2.adv hA (by decide)
      replace o4 := o4.adv hA (by decide)
      replace o7 := o7.adv hA (by decide)
      refine st hf rfl rfl (by decide) (r_assign hf rfl) fun a hf => ?_
      refine c_nt ?_
      refine c_retc ?_
      obtain rfl := Option.some.inj hF
      refine r_then ?_
      refine c_ret hf (res_ct Try.results63 ty28 hf rfl o3.cl rfl rfl) ?_
      exact ⟨_, rfl, hw.below, ⟨_, rfl, o7.out⟩⟩
    · refine c_iff hf rfl hb8 ?_
      refine c_skip ?_
      refine n_then ?_
      refine c_seq ?_
      refine c_seq ?_
      obtain ⟨s10, hT9, hG9⟩ := of_bind hF
      clear hF
      refine c_meet (fun (s : Bool) a w => ∃ ρ, Wd w0 ρ w ∧ Fr 93 a [(2, .int .i64 a2), (3, .pointer (some ((⟨g1, 0, none⟩ : Addr).add 0))), (4, .pointer (some ((⟨g2, 0, none⟩ : Addr).add 0))), (6, .pointer (some ((⟨g3, 0, none⟩ : Addr).add 0))), (55, .bool s)] ∧ Va ρ w 1 g1 28 ([.int .i64 a0.p, .int .i64 a0.n, .int .i64 a0.m, .int .i64 a0.k, va0]) ∧ Va ρ w 2 g2 28 ([.int .i64 a1.p, .int .i64 a1.n, .int .i64 a1.m, .int .i64 a1.k, va1]) ∧ Va ρ w 3 g3 28 ([.int .i64 0, .int .i64 0, .int .i64 0, .int .i64 0, (.slice none 0 0)]) ∧ Ow (kf cProd) 78 ρ w w0.heap.size 4 (.slice none 0 0) ([] : List Prod)) s10 ?_ ?_
      · have hF := hT9
        refine c_region ?_
        refine st hf rfl rfl (by decide) (r_fa fa28_0 hf rfl) fun a hf => ?_
        refine st hf rfl rfl (by decide) (r_load_cell ty2 hf rfl (o1.cl.at_ 0 _ rfl)) fun a hf => ?_
        refine st hf rfl rfl (by decide) (r_fa fa28_0 hf rfl) fun a hf => ?_
        refine st hf rfl rfl (by decide) (r_load_cell ty2 hf rfl (o2.cl.at_ 0 _ rfl)) fun a hf => ?_
        refine st hf rfl rfl (by decide) (r_neq hf rfl rfl) fun a hf => ?_
        refine st hf rfl rfl (by decide) (r_move hf rfl) fun a hf => ?_
        rcases of_ite hF with ⟨hb11, hF⟩ | ⟨hb11, hF⟩
        · refine st_no (b := true) hf rfl rfl rfl hb11 rfl (by decide) fun a hf => ?_
          refine st_no (b := true) hf rfl rfl rfl hb11 rfl (by decide) fun a hf => ?_
          refine st_no (b := true) hf rfl rfl rfl hb11 rfl (by decide) fun a hf => ?_
          refine st_nu hf rfl rfl rfl rfl (by decide) fun a hf => ?_
          refine st_nu hf rfl rfl rfl rfl (by decide) fun a hf => ?_
          refine st_nu hf rfl rfl rfl rfl (by decide) fun a hf => ?_
          refine st_nu hf rfl rfl rfl rfl (by decide) fun a hf => ?_
          refine st_nu hf rfl rfl rfl rfl (by decide) fun a hf => ?_
          refine st_no (b := true) hf rfl rfl rfl hb11 rfl (by decide) fun a hf => ?_
          refine st hf rfl rfl (by decide) (r_pick (b := true) hf rfl hb11 rfl) fun a hf => ?_
          refine st hf rfl rfl (by decide) (r_move hf rfl) fun a hf => ?_
          refine st_no (b := true) hf rfl rfl rfl rfl rfl (by decide) fun a hf => ?_
          refine st_no (b := true) hf rfl rfl rfl rfl rfl (by decide) fun a hf => ?_
          refine st_no (b := true) hf rfl rfl rfl rfl rfl (by decide) fun a hf => ?_
          refine st_nu hf rfl rfl rfl rfl (by decide) fun a hf => ?_
          refine st_nu hf rfl rfl rfl rfl (by decide) fun a hf => ?_
          refine st_nu hf rfl rfl rfl rfl (by decide) fun a hf => ?_
          refine st_nu hf rfl rfl rfl rfl (by decide) fun a hf => ?_
          refine st_nu hf rfl rfl rfl rfl (by decide) fun a hf => ?_
          refine st_no (b := true) hf rfl rfl rfl rfl rfl (by decide) fun a hf => ?_
          refine st hf rfl rfl (by decide) (r_pick (b := true) hf rfl rfl rfl) fun a hf => ?_
          refine st hf rfl rfl (by decide) (r_move hf rfl) fun a hf => ?_
          refine st_no (b := true) hf rfl rfl rfl rfl rfl (by decide) fun a hf => ?_
          refine st_no (b := true) hf rfl rfl rfl rfl rfl (by decide) fun a hf => ?_
          refine st_no (b := true) hf rfl rfl rfl rfl rfl (by decide) fun a hf => ?_
          refine st_nu hf rfl rfl rfl rfl (by decide) fun a hf => ?_
          refine st_nu hf rfl rfl rfl rfl (by decide) fun a hf => ?_
          refine st_nu hf rfl rfl rfl rfl (by decide) fun a hf => ?_
          refine st_nu hf rfl rfl rfl rfl (by decide) fun a hf => ?_
          refine st_nu hf rfl rfl rfl rfl (by decide) fun a hf => ?_
          refine st_no (b := true) hf rfl rfl rfl rfl rfl (by decide) fun a hf => ?_
          refine st hf rfl rfl (by decide) (r_pick (b := true) hf rfl rfl rfl) fun a hf => ?_
          refine c_nil ⟨rfl, ?_⟩
          obtain rfl := Option.some.inj hF
          exact ⟨_, hw, hf.sub ⟨rfl, rfl, rfl, rfl, rfl, trivial⟩, o1, o2, o3, o4⟩
        · refine st_g (b := false) hf rfl rfl rfl hb11 rfl (by decide) (r_move hf rfl) fun a hf => ?_
          refine st_g (b := false) hf rfl rfl rfl hb11 rfl (by decide) (r_neq hf rfl rfl) fun a hf => ?_
          refine st_g (b := false) hf rfl rfl rfl hb11 rfl (by decide) (r_move hf rfl) fun a hf => ?_
          rcases of_ite hF with ⟨hb12, hF⟩ | ⟨hb12, hF⟩
          · refine st_g (b := true) hf rfl rfl rfl hb12 rfl (by decide) (r_fa fa28_1 hf rfl) fun a hf => ?_
            refine st_g (b := true) hf rfl rfl rfl hb12 rfl (by decide) (r_load_cell ty2 hf rfl (o1.cl.at_ 1 _ rfl)) fun a hf => ?_
            refine st_g (b := true) hf rfl rfl rfl hb12 rfl (by decide) (r_fa fa28_1 hf rfl) fun a hf => ?_
            refine st_g (b := true) hf rfl rfl rfl hb12 rfl (by decide) (r_load_cell ty2 hf rfl (o2.cl.at_ 1 _ rfl)) fun a hf => ?_
            refine st_g (b := true) hf rfl rfl rfl hb12 rfl (by decide) (r_neq hf rfl rfl) fun a hf => ?_
            refine st_g (b := false) hf rfl rfl rfl hb11 rfl (by decide) (r_pick (b := true) hf rfl hb12 rfl) fun a hf => ?_
            refine st hf rfl rfl (by decide) (r_pick (b := false) hf rfl hb11 rfl) fun a hf => ?_
            refine st hf rfl rfl (by decide) (r_move hf rfl) fun a hf => ?_
            rcases of_ite hF with ⟨hb13, hF⟩ | ⟨hb13, hF⟩
            · refine st_no (b := true) hf rfl rfl rfl hb13 rfl (by decide) fun a hf => ?_
              refine st_no (b := true) hf rfl rfl rfl hb13 rfl (by decide) fun a hf => ?_
              refine st_no (b := true) hf rfl rfl rfl hb13 rfl (by decide) fun a hf => ?_
              refine st_nu hf rfl rfl rfl rfl (by decide) fun a hf => ?_
              refine st_nu hf rfl rfl rfl rfl (by decide) fun a hf => ?_
              refine st_nu hf rfl rfl rfl rfl (by decide) fun a hf => ?_
              refine st_nu hf rfl rfl rfl rfl (by decide) fun a hf => ?_
              refine st_nu hf rfl rfl rfl rfl (by decide) fun a hf => ?_
              refine st_no (b := true) hf rfl rfl rfl hb13 rfl (by decide) fun a hf => ?_
              refine st hf rfl rfl (by decide) (r_pick (b := true) hf rfl hb13 rfl) fun a hf => ?_
              refine st hf rfl rfl (by decide) (r_move hf rfl) fun a hf => ?_
              refine st_no (b := true) hf rfl rfl rfl rfl rfl (by decide) fun a hf => ?_
              refine st_no (b := true) hf rfl rfl rfl rfl rfl (by decide) fun a hf => ?_
              refine st_no (b := true) hf rfl rfl rfl rfl rfl (by decide) fun a hf => ?_
              refine st_nu hf rfl rfl rfl rfl (by decide) fun a hf => ?_
              refine st_nu hf rfl rfl rfl rfl (by decide) fun a hf => ?_
              refine st_nu hf rfl rfl rfl rfl (by decide) fun a hf => ?_
              refine st_nu hf rfl rfl rfl rfl (by decide) fun a hf => ?_
              refine st_nu hf rfl rfl rfl rfl (by decide) fun a hf => ?_
              refine st_no (b := true) hf rfl rfl rfl rfl rfl (by decide) fun a hf => ?_
              refine st hf rfl rfl (by decide) (r_pick (b := true) hf rfl rfl rfl) fun a hf => ?_
              refine c_nil ⟨rfl, ?_⟩
              obtain rfl := Option.some.inj hF
              exact ⟨_, hw, hf.sub ⟨rfl, rfl, rfl, rfl, rfl, trivial⟩, o1, o2, o3, o4⟩
            · refine st_g (b := false) hf rfl rfl rfl hb13 rfl (by decide) (r_move hf rfl) fun a hf => ?_
              refine st_g (b := false) hf rfl rfl rfl hb13 rfl (by decide) (r_neq hf rfl rfl) fun a hf => ?_
              refine st_g (b := false) hf rfl rfl rfl hb13 rfl (by decide) (r_move hf rfl) fun a hf => ?_
              rcases of_ite hF with ⟨hb14, hF⟩ | ⟨hb14, hF⟩
              · refine st_g (b := true) hf rfl rfl rfl hb14 rfl (by decide) (r_fa fa28_2 hf rfl) fun a hf => ?_
                refine st_g (b := true) hf rfl rfl rfl hb14 rfl (by decide) (r_load_cell ty2 hf rfl (o1.cl.at_ 2 _ rfl)) fun a hf => ?_
                refine st_g (b := true) hf rfl rfl rfl hb14 rfl (by decide) (r_fa fa28_2 hf rfl) fun a hf => ?_
                refine st_g (b := true) hf rfl rfl rfl hb14 rfl (by decide) (r_load_cell ty2 hf rfl (o2.cl.at_ 2 _ rfl)) fun a hf => ?_
                refine st_g (b := true) hf rfl rfl rfl hb14 rfl (by decide) (r_neq hf rfl rfl) fun a hf => ?_
                refine st_g (b := false) hf rfl rfl rfl hb13 rfl (by decide) (r_pick (b := true) hf rfl hb14 rfl) fun a hf => ?_
                refine st hf rfl rfl (by decide) (r_pick (b := false) hf rfl hb13 rfl) fun a hf => ?_
                refine st hf rfl rfl (by decide) (r_move hf rfl) fun a hf => ?_
                rcases of_ite hF with ⟨hb15, hF⟩ | ⟨hb15, hF⟩
                · refine st_no (b := true) hf rfl rfl rfl hb15 rfl (by decide) fun a hf => ?_
                  refine st_no (b := true) hf rfl rfl rfl hb15 rfl (by decide) fun a hf => ?_
                  refine st_no (b := true) hf rfl rfl rfl hb15 rfl (by decide) fun a hf => ?_
                  refine st_nu hf rfl rfl rfl rfl (by decide) fun a hf => ?_
                  refine st_nu hf rfl rfl rfl rfl (by decide) fun a hf => ?_
                  refine st_nu hf rfl rfl rfl rfl (by decide) fun a hf => ?_
                  refine st_nu hf rfl rfl rfl rfl (by decide) fun a hf => ?_
                  refine st_nu hf rfl rfl rfl rfl (by decide) fun a hf => ?_
                  refine st_no (b := true) hf rfl rfl rfl hb15 rfl (by decide) fun a hf => ?_
                  refine st hf rfl rfl (by decide) (r_pick (b := true) hf rfl hb15 rfl) fun a hf => ?_
                  refine c_nil ⟨rfl, ?_⟩
                  obtain rfl := Option.some.inj hF
                  exact ⟨_, hw, hf.sub ⟨rfl, rfl, rfl, rfl, rfl, trivial⟩, o1, o2, o3, o4⟩
                · refine st_g (b := false) hf rfl rfl rfl hb15 rfl (by decide) (r_move hf rfl) fun a hf => ?_
                  refine st_g (b := false) hf rfl rfl rfl hb15 rfl (by decide) (r_neq hf rfl rfl) fun a hf => ?_
                  refine st_g (b := false) hf rfl rfl rfl hb15 rfl (by decide) (r_move hf rfl) fun a hf => ?_
                  rcases of_ite hF with ⟨hb16, hF⟩ | ⟨hb16, hF⟩
                  · refine st_g (b := true) hf rfl rfl rfl hb16 rfl (by decide) (r_fa fa28_3 hf rfl) fun a hf => ?_
                    refine st_g (b := true) hf rfl rfl rfl hb16 rfl (by decide) (r_load_cell ty2 hf rfl (o1.cl.at_ 3 _ rfl)) fun a hf => ?_
                    refine st_g (b := true) hf rfl rfl rfl hb16 rfl (by decide) (r_fa fa28_3 hf rfl) fun a hf => ?_
                    refine st_g (b := true) hf rfl rfl rfl hb16 rfl (by decide) (r_load_cell ty2 hf rfl (o2.cl.at_ 3 _ rfl)) fun a hf => ?_
                    refine st_g (b := true) hf rfl rfl rfl hb16 rfl (by decide) (r_neq hf rfl rfl) fun a hf => ?_
                    refine st_g (b := false) hf rfl rfl rfl hb15 rfl (by decide) (r_pick (b := true) hf rfl hb16 rfl) fun a hf => ?_
                    refine st hf rfl rfl (by decide) (r_pick (b := false) hf rfl hb15 rfl) fun a hf => ?_
                    refine c_nil ⟨rfl, ?_⟩
                    obtain rfl := Option.some.inj hF
                    exact ⟨_, hw, hf.sub ⟨rfl, rfl, rfl, rfl, rfl, trivial⟩, o1, o2, o3, o4⟩
                  · refine st_no (b := false) hf rfl rfl rfl hb16 rfl (by decide) fun a hf => ?_
                    refine st_no (b := false) hf rfl rfl rfl hb16 rfl (by decide) fun a hf => ?_
                    refine st_no (b := false) hf rfl rfl rfl hb16 rfl (by decide) fun a hf => ?_
                    refine st_no (b := false) hf rfl rfl rfl hb16 rfl (by decide) fun a hf => ?_
                    refine st_no (b := false) hf rfl rfl rfl hb16 rfl (by decide) fun a hf => ?_
                    refine st_g (b := false) hf rfl rfl rfl hb15 rfl (by decide) (r_pick (b := false) hf rfl hb16 rfl) fun a hf => ?_
                    refine st hf rfl rfl (by decide) (r_pick (b := false) hf rfl hb15 rfl) fun a hf => ?_
                    refine c_nil ⟨rfl, ?_⟩
                    obtain rfl := Option.some.inj hF
                    exact ⟨_, hw, hf.sub ⟨rfl, rfl, rfl, rfl, rfl, trivial⟩, o1, o2, o3, o4⟩
              · refine st_no (b := false) hf rfl rfl rfl hb14 rfl (by decide) fun a hf => ?_
                refine st_no (b := false) hf rfl rfl rfl hb14 rfl (by decide) fun a hf => ?_
                refine st_no (b := false) hf rfl rfl rfl hb14 rfl (by decide) fun a hf => ?_
                refine st_no (b := false) hf rfl rfl rfl hb14 rfl (by decide) fun a hf => ?_
                refine st_no (b := false) hf rfl rfl rfl hb14 rfl (by decide) fun a hf => ?_
                refine st_g (b := false) hf rfl rfl rfl hb13 rfl (by decide) (r_pick (b := false) hf rfl hb14 rfl) fun a hf => ?_
                refine st hf rfl rfl (by decide) (r_pick (b := false) hf rfl hb13 rfl) fun a hf => ?_
                refine st hf rfl rfl (by decide) (r_move hf rfl) fun a hf => ?_
                refine st_g (b := false) hf rfl rfl rfl rfl rfl (by decide) (r_move hf rfl) fun a hf => ?_
                refine st_g (b := false) hf rfl rfl rfl rfl rfl (by decide) (r_neq hf rfl rfl) fun a hf => ?_
                refine st_g (b := false) hf rfl rfl rfl rfl rfl (by decide) (r_move hf rfl) fun a hf => ?_
                rcases of_ite hF with ⟨hb17, hF⟩ | ⟨hb17, hF⟩
                · refine st_g (b := true) hf rfl rfl rfl hb17 rfl (by decide) (r_fa fa28_3 hf rfl) fun a hf => ?_
                  refine st_g (b := true) hf rfl rfl rfl hb17 rfl (by decide) (r_load_cell ty2 hf rfl (o1.cl.at_ 3 _ rfl)) fun a hf => ?_
                  refine st_g (b := true) hf rfl rfl rfl hb17 rfl (by decide) (r_fa fa28_3 hf rfl) fun a hf => ?_
                  refine st_g (b := true) hf rfl rfl rfl hb17 rfl (by decide) (r_load_cell ty2 hf rfl (o2.cl.at_ 3 _ rfl)) fun a hf => ?_
                  refine st_g (b := true) hf rfl rfl rfl hb17 rfl (by decide) (r_neq hf rfl rfl) fun a hf => ?_
                  refine st_g (b := false) hf rfl rfl rfl rfl rfl (by decide) (r_pick (b := true) hf rfl hb17 rfl) fun a hf => ?_
                  refine st hf rfl rfl (by decide) (r_pick (b := false) hf rfl rfl rfl) fun a hf => ?_
                  refine c_nil ⟨rfl, ?_⟩
                  obtain rfl := Option.some.inj hF
                  exact ⟨_, hw, hf.sub ⟨rfl, rfl, rfl, rfl, rfl, trivial⟩, o1, o2, o3, o4⟩
                · refine st_no (b := false) hf rfl rfl rfl hb17 rfl (by decide) fun a hf => ?_
                  refine st_no (b := false) hf rfl rfl rfl hb17 rfl (by decide) fun a hf => ?_
                  refine st_no (b := false) hf rfl rfl rfl hb17 rfl (by decide) fun a hf => ?_
                  refine st_no (b := false) hf rfl rfl rfl hb17 rfl (by decide) fun a hf => ?_
                  refine st_no (b := false) hf rfl rfl rfl hb17 rfl (by decide) fun a hf => ?_
                  refine st_g (b := false) hf rfl rfl rfl rfl rfl (by decide) (r_pick (b := false) hf rfl hb17 rfl) fun a hf => ?_
                  refine st hf rfl rfl (by decide) (r_pick (b := false) hf rfl rfl rfl) fun a hf => ?_
                  refine c_nil ⟨rfl, ?_⟩
                  obtain rfl := Option.some.inj hF
                  exact ⟨_, hw, hf.sub ⟨rfl, rfl, rfl, rfl, rfl, trivial⟩, o1, o2, o3, o4⟩
          · refine st_no (b := false) hf rfl rfl rfl hb12 rfl (by decide) fun a hf => ?_
            refine st_no (b := false) hf rfl rfl rfl hb12 rfl (by decide) fun a hf => ?_
            refine st_no (b := false) hf rfl rfl rfl hb12 rfl (by decide) fun a hf => ?_
            refine st_no (b := false) hf rfl rfl rfl hb12 rfl (by decide) fun a hf => ?_
            refine st_no (b := false) hf rfl rfl rfl hb12 rfl (by decide) fun a hf => ?_
            refine st_g (b := false) hf rfl rfl rfl hb11 rfl (by decide) (r_pick (b := false) hf rfl hb12 rfl) fun a hf => ?_
            refine st hf rfl rfl (by decide) (r_pick (b := false) hf rfl hb11 rfl) fun a hf => ?_
            refine st hf rfl rfl (by decide) (r_move hf rfl) fun a hf => ?_
            refine st_g (b := false) hf rfl rfl rfl rfl rfl (by decide) (r_move hf rfl) fun a hf => ?_
            refine st_g (b := false) hf rfl rfl rfl rfl rfl (by decide) (r_neq hf rfl rfl) fun a hf => ?_
            refine st_g (b := false) hf rfl rfl rfl rfl rfl (by decide) (r_move hf rfl) fun a hf => ?_
            rcases of_ite hF with ⟨hb18, hF⟩ | ⟨hb18, hF⟩
            · refine st_g (b := true) hf rfl rfl rfl hb18 rfl (by decide) (r_fa fa28_2 hf rfl) fun a hf => ?_
              refine st_g (b := true) hf rfl rfl rfl hb18 rfl (by decide) (r_load_cell ty2 hf rfl (o1.cl.at_ 2 _ rfl)) fun a hf => ?_
              refine st_g (b := true) hf rfl rfl rfl hb18 rfl (by decide) (r_fa fa28_2 hf rfl) fun a hf => ?_
              refine st_g (b := true) hf rfl rfl rfl hb18 rfl (by decide) (r_load_cell ty2 hf rfl (o2.cl.at_ 2 _ rfl)) fun a hf => ?_
              refine st_g (b := true) hf rfl rfl rfl hb18 rfl (by decide) (r_neq hf rfl rfl) fun a hf => ?_
              refine st_g (b := false) hf rfl rfl rfl rfl rfl (by decide) (r_pick (b := true) hf rfl hb18 rfl) fun a hf => ?_
              refine st hf rfl rfl (by decide) (r_pick (b := false) hf rfl rfl rfl) fun a hf => ?_
              refine st hf rfl rfl (by decide) (r_move hf rfl) fun a hf => ?_
              rcases of_ite hF with ⟨hb19, hF⟩ | ⟨hb19, hF⟩
              · refine st_no (b := true) hf rfl rfl rfl hb19 rfl (by decide) fun a hf => ?_
                refine st_no (b := true) hf rfl rfl rfl hb19 rfl (by decide) fun a hf => ?_
                refine st_no (b := true) hf rfl rfl rfl hb19 rfl (by decide) fun a hf => ?_
                refine st_nu hf rfl rfl rfl rfl (by decide) fun a hf => ?_
                refine st_nu hf rfl rfl rfl rfl (by decide) fun a hf => ?_
                refine st_nu hf rfl rfl rfl rfl (by decide) fun a hf => ?_
                refine st_nu hf rfl rfl rfl rfl (by decide) fun a hf => ?_
                refine st_nu hf rfl rfl rfl rfl (by decide) fun a hf => ?_
                refine st_no (b := true) hf rfl rfl rfl hb19 rfl (by decide) fun a hf => ?_
                refine st hf rfl rfl (by decide) (r_pick (b := true) hf rfl hb19 rfl) fun a hf => ?_
                refine c_nil ⟨rfl, ?_⟩
                obtain rfl := Option.some.inj hF
                exact ⟨_, hw, hf.sub ⟨rfl, rfl, rfl, rfl, rfl, trivial⟩, o1, o2, o3, o4⟩
              · refine st_g (b := false) hf rfl rfl rfl hb19 rfl (by decide) (r_move hf rfl) fun a hf => ?_
                refine st_g (b := false) hf rfl rfl rfl hb19 rfl (by decide) (r_neq hf rfl rfl) fun a hf => ?_
                refine st_g (b := false) hf rfl rfl rfl hb19 rfl (by decide) (r_move hf rfl) fun a hf => ?_
                rcases of_ite hF with ⟨hb20, hF⟩ | ⟨hb20, hF⟩
                · refine st_g (b := true) hf rfl rfl rfl hb20 rfl (by decide) (r_fa fa28_3 hf rfl) fun a hf => ?_
                  refine st_g (b := true) hf rfl rfl rfl hb20 rfl (by decide) (r_load_cell ty2 hf rfl (o1.cl.at_ 3 _ rfl)) fun a hf => ?_
                  refine st_g (b := true) hf rfl rfl rfl hb20 rfl (by decide) (r_fa fa28_3 hf rfl) fun a hf => ?_
                  refine st_g (b := true) hf rfl rfl rfl hb20 rfl (by decide) (r_load_cell ty2 hf rfl (o2.cl.at_ 3 _ rfl)) fun a hf => ?_
                  refine st_g (b := true) hf rfl rfl rfl hb20 rfl (by decide) (r_neq hf rfl rfl) fun a hf => ?_
                  refine st_g (b := false) hf rfl rfl rfl hb19 rfl (by decide) (r_pick (b := true) hf rfl hb20 rfl) fun a hf => ?_
                  refine st hf rfl rfl (by decide) (r_pick (b := false) hf rfl hb19 rfl) fun a hf => ?_
                  refine c_nil ⟨rfl, ?_⟩
                  obtain rfl := Option.some.inj hF
                  exact ⟨_, hw, hf.sub ⟨rfl, rfl, rfl, rfl, rfl, trivial⟩, o1, o2, o3, o4⟩
                · refine st_no (b := false) hf rfl rfl rfl hb20 rfl (by decide) fun a hf => ?_
                  refine st_no (b := false) hf rfl rfl rfl hb20 rfl (by decide) fun a hf => ?_
                  refine st_no (b := false) hf rfl rfl rfl hb20 rfl (by decide) fun a hf => ?_
                  refine st_no (b := false) hf rfl rfl rfl hb20 rfl (by decide) fun a hf => ?_
                  refine st_no (b := false) hf rfl rfl rfl hb20 rfl (by decide) fun a hf => ?_
                  refine st_g (b := false) hf rfl rfl rfl hb19 rfl (by decide) (r_pick (b := false) hf rfl hb20 rfl) fun a hf => ?_
                  refine st hf rfl rfl (by decide) (r_pick (b := false) hf rfl hb19 rfl) fun a hf => ?_
                  refine c_nil ⟨rfl, ?_⟩
                  obtain rfl := Option.some.inj hF
                  exact ⟨_, hw, hf.sub ⟨rfl, rfl, rfl, rfl, rfl, trivial⟩, o1, o2, o3, o4⟩
            · refine st_no (b := false) hf rfl rfl rfl hb18 rfl (by decide) fun a hf => ?_
              refine st_no (b := false) hf rfl rfl rfl hb18 rfl (by decide) fun a hf => ?_
              refine st_no (b := false) hf rfl rfl rfl hb18 rfl (by decide) fun a hf => ?_
              refine st_no (b := false) hf rfl rfl rfl hb18 rfl (by decide) fun a hf => ?_
              refine st_no (b := false) hf rfl rfl rfl hb18 rfl (by decide) fun a hf => ?_
              refine st_g (b := false) hf rfl rfl rfl rfl rfl (by decide) (r_pick (b := false) hf rfl hb18 rfl) fun a hf => ?_
              refine st hf rfl rfl (by decide) (r_pick (b := false) hf rfl rfl rfl) fun a hf => ?_
              refine st hf rfl rfl (by decide) (r_move hf rfl) fun a hf => ?_
              refine st_g (b := false) hf rfl rfl rfl rfl rfl (by decide) (r_move hf rfl) fun a hf => ?_
              refine st_g (b := false) hf rfl rfl rfl rfl rfl (by decide) (r_neq hf rfl rfl) fun a hf => ?_
              refine st_g (b := false) hf rfl rfl rfl rfl rfl (by decide) (r_move hf rfl) fun a hf => ?_
              rcases of_ite hF with ⟨hb21, hF⟩ | ⟨hb21, hF⟩
              · refine st_g (b := true) hf rfl rfl rfl hb21 rfl (by decide) (r_fa fa28_3 hf rfl) fun a hf => ?_
                refine st_g (b := true) hf rfl rfl rfl hb21 rfl (by decide) (r_load_cell ty2 hf rfl (o1.cl.at_ 3 _ rfl)) fun a hf => ?_
                refine st_g (b := true) hf rfl rfl rfl hb21 rfl (by decide) (r_fa fa28_3 hf rfl) fun a hf => ?_
                refine st_g (b := true) hf rfl rfl rfl hb21 rfl (by decide) (r_load_cell ty2 hf rfl (o2.cl.at_ 3 _ rfl)) fun a hf => ?_
                refine st_g (b := true) hf rfl rfl rfl hb21 rfl (by decide) (r_neq hf rfl rfl) fun a hf => ?_
                refine st_g (b := false) hf rfl rfl rfl rfl rfl (by decide) (r_pick (b := true) hf rfl hb21 rfl) fun a hf => ?_
                refine st hf rfl rfl (by decide) (r_pick (b := false) hf rfl rfl rfl) fun a hf => ?_
                refine c_nil ⟨rfl, ?_⟩
                obtain rfl := Option.some.inj hF
                exact ⟨_, hw, hf.sub ⟨rfl, rfl, rfl, rfl, rfl, trivial⟩, o1, o2, o3, o4⟩
              · refine st_no (b := false) hf rfl rfl rfl hb21 rfl (by decide) fun a hf => ?_
                refine st_no (b := false) hf rfl rfl rfl hb21 rfl (by decide) fun a hf => ?_
                refine st_no (b := false) hf rfl rfl rfl hb21 rfl (by decide) fun a hf => ?_
                refine st_no (b := false) hf rfl rfl rfl hb21 rfl (by decide) fun a hf => ?_
                refine st_no (b := false) hf rfl rfl rfl hb21 rfl (by decide) fun a hf => ?_
                refine st_g (b := false) hf rfl rfl rfl rfl rfl (by decide) (r_pick (b := false) hf rfl hb21 rfl) fun a hf => ?_
                refine st hf rfl rfl (by decide) (r_pick (b := false) hf rfl rfl rfl) fun a hf => ?_
                refine c_nil ⟨rfl, ?_⟩
                obtain rfl := Option.some.inj hF
                exact ⟨_, hw, hf.sub ⟨rfl, rfl, rfl, rfl, rfl, trivial⟩, o1, o2, o3, o4⟩
      · rintro a w ⟨ρ, hw, hf, o1, o2, o3, o4⟩
        replace hf : Fr 93 a [(2, .int .i64 a2), (3, .pointer (some ((⟨g1, 0, none⟩ : Addr).add 0))), (4, .pointer (some ((⟨g2, 0, none⟩ : Addr).add 0))), (6, .pointer (some ((⟨g3, 0, none⟩ : Addr).add 0))), (55, .bool s10)] := hf
        replace o1 : Va ρ w 1 g1 28 ([.int .i64 a0.p, .int .i64 a0.n, .int .i64 a0.m, .int .i64 a0.k, va0]) := o1
        replace o2 : Va ρ w 2 g2 28 ([.int .i64 a1.p, .int .i64 a1.n, .int .i64 a1.m, .int .i64 a1.k, va1]) := o2
        replace o3 : Va ρ w 3 g3 28 ([.int .i64 0, .int .i64 0, .int .i64 0, .int .i64 0, (.slice none 0 0)]) := o3
        replace o4 : Ow (kf cProd) 78 ρ w w0.heap.size 4 (.slice none 0 0) ([] : List Prod) := o4
        have hF := hG9
        refine n_then ?_
        rcases of_ite hF with ⟨hb22, hF⟩ | ⟨hb22, hF⟩
        · refine c_ift hf rfl hb22 ?_
          refine c_seq ?_
          refine c_region ?_
          have o8 : Ow (kf cProd) 78 ρ w w0.heap.size 8 (.slice none 0 0) [] := Ow.nil _ _ _ _ _ _
          refine st hf rfl rfl (by decide) (r_build_struct (pl := [(0, 1), (1, 1), (2, 1), (3, 1), (4, 1)]) (vs := []) (res := ([.int .i64 0, .int .i64 0, .int .i64 0, .int .i64 0, (.slice none 0 0)]).toArray) Try.underlying28 (by kernel_rfl) ze28 hf rfl rfl rfl) fun a hf => ?_
          refine st_skip hf rfl rfl (r_store_w (cs' := [.int .i64 0, .int .i64 0, .int .i64 0, .int .i64 0, (.slice none 0 0)]) hw o3 (by decide) ty28 rfl rfl (one_sch o8.ro.one) hf rfl rfl rfl) fun a w hf hΦ => ?_
          obtain ⟨hw, hA, o3⟩ := hΦ
          replace o1 := o1.adv hA (by decide)
          replace o2 := o2.adv hA (by decide)
          replace o4 := o4.adv hA (by decide)
          replace o8 := o8.adv hA (by decide)
          refine st hf rfl rfl (by decide) (r_assign hf rfl) fun a hf => ?_
          refine c_nt ?_
          refine c_retc ?_
          obtain rfl := Option.some.inj hF
          refine r_then ?_
          refine c_ret hf (res_ct Try.results63 ty28 hf rfl o3.cl rfl rfl) ?_
          exact ⟨_, rfl, hw.below, ⟨_, rfl, o8.out⟩⟩
        · refine c_iff hf rfl hb22 ?_
          refine c_skip ?_
          refine n_then ?_
          refine c_seq ?_
          refine c_region ?_
          refine st hf rfl rfl (by decide) (r_fa fa28_1 hf rfl) fun a hf => ?_
          refine st hf rfl rfl (by decide) (r_load_cell ty2 hf rfl (o1.cl.at_ 1 _ rfl)) fun a hf => ?_
          refine st hf rfl rfl (by decide) (r_fa fa28_1 hf rfl) fun a hf => ?_
          refine st hf rfl rfl (by decide) (r_load_cell ty2 hf rfl (o2.cl.at_ 1 _ rfl)) fun a hf => ?_
          refine st hf rfl rfl (by decide) (r_add hf rfl rfl) fun a hf => ?_
          refine st hf rfl rfl (by decide) (r_fa fa28_2 hf rfl) fun a hf => ?_
          refine st hf rfl rfl (by decide) (r_load_cell ty2 hf rfl (o1.cl.at_ 2 _ rfl)) fun a hf => ?_
          refine st hf rfl rfl (by decide) (r_fa fa28_2 hf rfl) fun a hf => ?_
          refine st hf rfl rfl (by decide) (r_load_cell ty2 hf rfl (o2.cl.at_ 2 _ rfl)) fun a hf => ?_
          refine st hf rfl rfl (by decide) (r_add hf rfl rfl) fun a hf => ?_
          refine st hf rfl rfl (by decide) (r_fa fa28_3 hf rfl) fun a hf => ?_
          refine st hf rfl rfl (by decide) (r_load_cell ty2 hf rfl (o1.cl.at_ 3 _ rfl)) fun a hf => ?_
          refine st hf rfl rfl (by decide) (r_fa fa28_3 hf rfl) fun a hf => ?_
          refine st hf rfl rfl (by decide) (r_load_cell ty2 hf rfl (o2.cl.at_ 3 _ rfl)) fun a hf => ?_
          refine st hf rfl rfl (by decide) (r_add hf rfl rfl) fun a hf => ?_
          refine st_ex hf rfl rfl (by decide) (r_lit (d := fI64) (xs := ([w64 (a0.n + a1.n), w64 (a0.m + a1.m), w64 (a0.k + a1.k)] : List Int)) (vs := [.int .i64 (w64 (a0.n + a1.n)), .int .i64 (w64 (a0.m + a1.m)), .int .i64 (w64 (a0.k + a1.k))]) 9 Try.underlying61 el2 (Nat.le_of_ble_eq_true rfl) (Nat.le_of_ble_eq_true rfl) hw hf rfl rfl rfl) fun a v9 w hf hΦ => ?_
          obtain ⟨ρ, hw, hE, o9⟩ := hΦ
          replace o1 := o1.ext hE
          replace o2 := o2.ext hE
          replace o3 := o3.ext hE
          replace o4 := o4.ext hE
          refine st hf rfl rfl (by decide) (r_assign hf rfl) fun a hf => ?_
          refine c_nt ?_
          refine c_seq ?_
          refine c_seq ?_
          obtain ⟨s24, hT23, hG23⟩ := of_bind hF
          clear hF
          refine c_meet (fun (s : Bool) a w => ∃ ρ, Wd w0 ρ w ∧ Fr 93 a [(2, .int .i64 a2), (3, .pointer (some ((⟨g1, 0, none⟩ : Addr).add 0))), (4, .pointer (some ((⟨g2, 0, none⟩ : Addr).add 0))), (6, .pointer (some ((⟨g3, 0, none⟩ : Addr).add 0))), (87, .bool s)] ∧ Va ρ w 1 g1 28 ([.int .i64 a0.p, .int .i64 a0.n, .int .i64 a0.m, .int .i64 a0.k, va0]) ∧ Va ρ w 2 g2 28 ([.int .i64 a1.p, .int .i64 a1.n, .int .i64 a1.m, .int .i64 a1.k, va1]) ∧ Va ρ w 3 g3 28 ([.int .i64 0, .int .i64 0, .int .i64 0, .int .i64 0, (.slice none 0 0)]) ∧ Ow (kf cProd) 78 ρ w w0.heap.size 4 (.slice none 0 0) ([] : List Prod)) s24 ?_ ?_
          · have hF := hT23
            refine c_region ?_
            refine st hf rfl rfl (by decide) (r_move hf rfl) fun a hf => ?_
            refine st hf rfl rfl (by decide) (r_move hf rfl) fun a hf => ?_
            obtain ⟨hc25, hF⟩ := of_guard hF
            obtain ⟨ad26, hl26⟩ := Ow.ce (d := fI64) o9 0 hc25.1 hc25.2
            refine st hf rfl rfl (by decide) (r_idx Try.underlying61 sz2 hf rfl hl26.at_ rfl hc25.1 hc25.2) fun a hf => ?_
            refine st hf rfl rfl (by decide) (r_load_cell ty2 hf rfl hl26.co.cl) fun a hf => ?_
            refine st hf rfl rfl (by decide) (r_gtr hf rfl rfl) fun a hf => ?_
            refine st hf rfl rfl (by decide) (r_move hf rfl) fun a hf => ?_
            rcases of_ite hF with ⟨hb27, hF⟩ | ⟨hb27, hF⟩
            · refine st_no (b := true) hf rfl rfl rfl hb27 rfl (by decide) fun a hf => ?_
              refine st_no (b := true) hf rfl rfl rfl hb27 rfl (by decide) fun a hf => ?_
              refine st_no (b := true) hf rfl rfl rfl hb27 rfl (by decide) fun a hf => ?_
              refine st_no (b := true) hf rfl rfl rfl hb27 rfl (by decide) fun a hf => ?_
              refine st_no (b := true) hf rfl rfl rfl hb27 rfl (by decide) fun a hf => ?_
              refine st_no (b := true) hf rfl rfl rfl hb27 rfl (by decide) fun a hf => ?_
              refine st_no (b := true) hf rfl rfl rfl hb27 rfl (by decide) fun a hf => ?_
              refine st_no (b := true) hf rfl rfl rfl hb27 rfl (by decide) fun a hf => ?_
              refine st hf rfl rfl (by decide) (r_pick (b := true) hf rfl hb27 rfl) fun a hf => ?_
              refine c_nil ⟨rfl, ?_⟩
              obtain rfl := Option.some.inj hF
              exact ⟨_, hw, hf.sub ⟨rfl, rfl, rfl, rfl, rfl, trivial⟩, o1, o2, o3, o4⟩
            · refine st_g (b := false) hf rfl rfl rfl hb27 rfl (by decide) (r_fa fa28_4 hf rfl) fun a hf => ?_
              refine st_g (b := false) hf rfl rfl rfl hb27 rfl (by decide) (r_load_cell ty26 hf rfl (o1.cl.at_ 4 _ rfl)) fun a hf => ?_
              refine st_g (b := false) hf rfl rfl rfl hb27 rfl (by decide) (r_len Try.underlying26 (h0.now hw) hf rfl) fun a hf => ?_
              refine st_g (b := false) hf rfl rfl rfl hb27 rfl (by decide) (r_fa fa28_4 hf rfl) fun a hf => ?_
              refine st_g (b := false) hf rfl rfl rfl hb27 rfl (by decide) (r_load_cell ty26 hf rfl (o2.cl.at_ 4 _ rfl)) fun a hf => ?_
              refine st_g (b := false) hf rfl rfl rfl hb27 rfl (by decide) (r_len Try.underlying26 (h1.now hw) hf rfl) fun a hf => ?_
              refine st_g (b := false) hf rfl rfl rfl hb27 rfl (by decide) (r_add hf rfl rfl) fun a hf => ?_
              refine st_g (b := false) hf rfl rfl rfl hb27 rfl (by decide) (r_gtr hf rfl rfl) fun a hf => ?_
              refine st hf rfl rfl (by decide) (r_pick (b := false) hf rfl hb27 rfl) fun a hf => ?_
              refine c_nil ⟨rfl, ?_⟩
              obtain rfl := Option.some.inj hF
              exact ⟨_, hw, hf.sub ⟨rfl, rfl, rfl, rfl, rfl, trivial⟩, o1, o2, o3, o4⟩
          · rintro a w ⟨ρ, hw, hf, o1, o2, o3, o4⟩
            replace hf : Fr 93 a [(2, .int .i64 a2), (3, .pointer (some ((⟨g1, 0, none⟩ : Addr).add 0))), (4, .pointer (some ((⟨g2, 0, none⟩ : Addr).add 0))), (6, .pointer (some ((⟨g3, 0, none⟩ : Addr).add 0))), (87, .bool s24)] := hf
            replace o1 : Va ρ w 1 g1 28 ([.int .i64 a0.p, .int .i64 a0.n, .int .i64 a0.m, .int .i64 a0.k, va0]) := o1
            replace o2 : Va ρ w 2 g2 28 ([.int .i64 a1.p, .int .i64 a1.n, .int .i64 a1.m, .int .i64 a1.k, va1]) := o2
            replace o3 : Va ρ w 3 g3 28 ([.int .i64 0, .int .i64 0, .int .i64 0, .int .i64 0, (.slice none 0 0)]) := o3
            replace o4 : Ow (kf cProd) 78 ρ w w0.heap.size 4 (.slice none 0 0) ([] : List Prod) := o4
            have hF := hG23
            refine n_then ?_
            rcases of_ite hF with ⟨hb28, hF⟩ | ⟨hb28, hF⟩
            · refine c_ift hf rfl hb28 ?_
              refine c_seq ?_
              refine c_region ?_
              have o11 : Ow (kf cProd) 78 ρ w w0.heap.size 11 (.slice none 0 0) [] := Ow.nil _ _ _ _ _ _
              refine st hf rfl rfl (by decide) (r_build_struct (pl := [(0, 1), (1, 1), (2, 1), (3, 1), (4, 1)]) (vs := []) (res := ([.int .i64 0, .int .i64 0, .int .i64 0, .int .i64 0, (.slice none 0 0)]).toArray) Try.underlying28 (by kernel_rfl) ze28 hf rfl rfl rfl) fun a hf => ?_
              refine st_skip hf rfl rfl (r_store_w (cs' := [.int .i64 0, .int .i64 0, .int .i64 0, .int .i64 0, (.slice none 0 0)]) hw o3 (by decide) ty28 rfl rfl (one_sch o11.ro.one) hf rfl rfl rfl) fun a w hf hΦ => ?_
              obtain ⟨hw, hA, o3⟩ := hΦ
              replace o1 := o1.adv hA (by decide)
              replace o2 := o2.adv hA (by decide)
              replace o4 := o4.adv hA (by decide)
              replace o11 := o11.adv hA (by decide)
              refine st hf rfl rfl (by decide) (r_assign hf rfl) fun a hf => ?_
              refine c_nt ?_
              refine c_retc ?_
              obtain rfl := Option.some.inj hF
              refine r_then ?_
              refine c_ret hf (res_ct Try.results63 ty28 hf rfl o3.cl rfl rfl) ?_
              exact ⟨_, rfl, hw.below, ⟨_, rfl, o11.out⟩⟩
            · refine c_iff hf rfl hb28 ?_
              refine c_skip ?_
              refine n_then ?_
              refine c_seq ?_
              refine c_region ?_
              refine st hf rfl rfl (by decide) (r_load_agg ty28 hf rfl o1.cl rfl) fun a hf => ?_
              refine st hf rfl rfl (by decide) (r_load_agg ty28 hf rfl o2.cl rfl) fun a hf => ?_
              refine st hf rfl rfl (by decide) (r_move hf rfl) fun a hf => ?_
              obtain ⟨x29, hx30, hF⟩ := of_bind hF
              refine st_fn 12 hw hf rfl rfl (by decide) (r_fn en123 hf rfl) (spec_l02Join_ok (a0 := a0) (a1 := a1) (h0.now hw) (h1.now hw) hx30) fun a v w ρ hf hw hE hN hΦ => ?_
              obtain ⟨u31, rfl, hr32⟩ := hΦ
              replace o1 := o1.ext hE
              replace o2 := o2.ext hE
              replace o3 := o3.ext hE
              replace o4 := o4.ext hE
              have o12 := hN hr32
              refine st_skip hf rfl rfl (r_store_w (cs' := [.int .i64 x29.p, .int .i64 x29.n, .int .i64 x29.m, .int .i64 x29.k, u31]) hw o3 (by decide) ty28 rfl rfl (one_sch o12.ro.one) hf rfl rfl rfl) fun a w hf hΦ => ?_
              obtain ⟨hw, hA, o3⟩ := hΦ
              replace o1 := o1.adv hA (by decide)
              replace o2 := o2.adv hA (by decide)
              replace o4 := o4.adv hA (by decide)
              replace o12 := o12.adv hA (by decide)
              refine st hf rfl rfl (by decide) (r_assign hf rfl) fun a hf => ?_
              refine c_nt ?_
              refine c_retc ?_
              obtain rfl := Option.some.inj hF
              refine c_ret hf (res_ct Try.results63 ty28 hf rfl o3.cl rfl rfl) ?_
              exact ⟨_, rfl, hw.below, ⟨_, rfl, o12.out⟩⟩
/-! f104 -/
noncomputable def impl_isPrime (a0 : Int) : Option Bool :=
  (if (decide (a0 = 2)) = true then (some true) else (if (decide (a0 = 3)) = true then (some true) else (some (decide (a0 = 5))))).bind fun (s2 : Bool) => some (s2)
theorem impl_isPrime_ok {w0 : World} {a0 : Int}   {r : Bool} (hF : impl_isPrime a0 = some r) :
    Calls Try.prog 104 [.int .i64 a0].toArray w0 fun e w => ∃ v, e = .returned v ∧ Below w0.heap.size w0 w ∧ .bool r = v := by
  refine calls_of (k := 13) Try.func104 rfl rfl (Nat.le_of_ble_eq_true rfl) fun a hf => ?_
  replace hf : Fr 13 a [(0, .int .i64 a0)] := hf
  refine c_start fun w ρ hw => ?_
  unfold impl_isPrime at hF
  refine c_seq ?_
  refine c_region ?_
  refine st hf rfl rfl (by decide) (r_assign hf rfl) fun a hf => ?_
  refine c_nt ?_
  refine c_seq ?_
  obtain ⟨s2, hT1, hG1⟩ := of_bind hF
  clear hF
  refine c_meet (fun (s : Bool) a w => ∃ ρ, Wd w0 ρ w ∧ Fr 13 a [(2, .bool s)]) s2 ?_ ?_
  · have hF := hT1
    refine c_region ?_
    refine st hf rfl rfl (by decide) (r_move hf rfl) fun a hf => ?_
    refine st hf rfl rfl (by decide) (r_eql hf rfl rfl) fun a hf => ?_
    refine st hf rfl rfl (by decide) (r_move hf rfl) fun a hf => ?_
    rcases of_ite hF with ⟨hb3, hF⟩ | ⟨hb3, hF⟩
    · refine st_no (b := true) hf rfl rfl rfl hb3 rfl (by decide) fun a hf => ?_
      refine st_no (b := true) hf rfl rfl rfl hb3 rfl (by decide) fun a hf => ?_
      refine st hf rfl rfl (by decide) (r_pick (b := true) hf rfl hb3 rfl) fun a hf => ?_
      refine st hf rfl rfl (by decide) (r_move hf rfl) fun a hf => ?_
      refine st_no (b := true) hf rfl rfl rfl rfl rfl (by decide) fun a hf => ?_
      refine st_no (b := true) hf rfl rfl rfl rfl rfl (by decide) fun a hf => ?_
      refine st hf rfl rfl (by decide) (r_pick (b := true) hf rfl rfl rfl) fun a hf => ?_
      refine st hf rfl rfl (by decide) (r_assign hf rfl) fun a hf => ?_
      refine c_nil ⟨rfl, ?_⟩
      obtain rfl := Option.some.inj hF
      exact ⟨_, hw, hf.sub ⟨rfl, trivial⟩⟩
    · refine st_g (b := false) hf rfl rfl rfl hb3 rfl (by decide) (r_move hf rfl) fun a hf => ?_
      refine st_g (b := false) hf rfl rfl rfl hb3 rfl (by decide) (r_eql hf rfl rfl) fun a hf => ?_
      refine st hf rfl rfl (by decide) (r_pick (b := false) hf rfl hb3 rfl) fun a hf => ?_
      refine st hf rfl rfl (by decide) (r_move hf rfl) fun a hf => ?_
      rcases of_ite hF with ⟨hb4, hF⟩ | ⟨hb4, hF⟩
      · refine st_no (b := true) hf rfl rfl rfl hb4 rfl (by decide) fun a hf => ?_
        refine st_no (b := true) hf rfl rfl rfl hb4 rfl (by decide) fun a hf => ?_
        refine st hf rfl rfl (by decide) (r_pick (b := true) hf rfl hb4 rfl) fun a hf => ?_
        refine st hf rfl rfl (by decide) (r_assign hf rfl) fun a hf => ?_
        refine c_nil ⟨rfl, ?_⟩
        obtain rfl := Option.some.inj hF
        exact ⟨_, hw, hf.sub ⟨rfl, trivial⟩⟩
      · refine st_g (b := false) hf rfl rfl rfl hb4 rfl (by decide) (r_move hf rfl) fun a hf => ?_
        refine st_g (b := false) hf rfl rfl rfl hb4 rfl (by decide) (r_eql hf rfl rfl) fun a hf => ?_
        refine st hf rfl rfl (by decide) (r_pick (b := false) hf rfl hb4 rfl) fun a hf => ?_
        refine st hf rfl rfl (by decide) (r_assign hf rfl) fun a hf => ?_
        refine c_nil ⟨rfl, ?_⟩
        obtain rfl := Option.some.inj hF
        exact ⟨_, hw, hf.sub ⟨rfl, trivial⟩⟩
  · rintro a w ⟨ρ, hw, hf⟩
    replace hf : Fr 13 a [(2, .bool s2)] := hf
    have hF := hG1
    refine n_then ?_
    refine c_retc ?_
    obtain rfl := Option.some.inj hF
    refine c_ret hf (res_tmp Try.results104 hf rfl) ?_
    exact ⟨_, rfl, hw.below, rfl⟩
/-! f105 -/
noncomputable def impl_isSize_l1 (a0 : List Int) (s2 : Int) : Option (LR Int Bool) :=
  if (decide (s2 < (a0.length : Int))) = true then (if 0 ≤ s2 ∧ s2 < (a0.length : Int) then ((if (decide ((gl 0 a0 s2) < 1)) = true then (some true) else (some (decide (3 < (gl 0 a0 s2))))).bind fun (s7 : Bool) => if s7 = true then (some (.ret false)) else (some (.next (w64 (s2 + 1))))) else none) else (some (.stop s2))
noncomputable def impl_isSize (a0 : List Int) : Option Bool :=
  (iter (fun s => impl_isSize_l1 a0 s) 0).bind fun o => match o with | .stop s2 => (some (true)) | .ret r => some r | .next _ => none
theorem impl_isSize_ok {w0 : World} {a0 : List Int} {va0 : Value} (h0 : Ro (kf fI64) w0 va0 a0) {r : Bool} (hF : impl_isSize a0 = some r) :
    Calls Try.prog 105 [va0].toArray w0 fun e w => ∃ v, e = .returned v ∧ Below w0.heap.size w0 w ∧ .bool r = v := by
  refine calls_of (k := 18) Try.func105 rfl rfl (Nat.le_of_ble_eq_true rfl) fun a hf => ?_
  replace hf : Fr 18 a [(0, va0)] := hf
  refine c_start fun w ρ hw => ?_
  unfold impl_isSize at hF
  refine c_seq ?_
  refine c_region ?_
  refine st hf rfl rfl (by decide) (r_assign hf rfl) fun a hf => ?_
  refine c_nt ?_
  refine c_seq ?_
  refine c_seq ?_
  refine c_region ?_
  refine st hf rfl rfl (by decide) (r_move hf rfl) fun a hf => ?_
  refine st hf rfl rfl (by decide) (r_len Try.underlying61 (h0.now hw) hf rfl) fun a hf => ?_
  refine st hf rfl rfl (by decide) (r_move hf rfl) fun a hf => ?_
  refine c_nt ?_
  obtain ⟨ol1, ho1, hG1⟩ := of_bind hF
  clear hF
  refine c_block (c_loop (id := 0) (fun s => impl_isSize_l1 a0 s) (fun (s : Int) a w => ∃ ρ, Wd w0 ρ w ∧ Fr 18 a [(5, va0), (6, .int .i64 (a0.length : Int)), (7, .int .i64 s)]) (fun (s : Int) a w => ∃ ρ, Wd w0 ρ w ∧ Fr 18 a []) ho1 ⟨_, hw, hf.sub ⟨rfl, rfl, rfl, trivial⟩⟩ ?_ ?_)
  · rintro s2 lr a w ⟨ρ, hw, hf⟩ hF
    replace hf : Fr 18 a [(5, va0), (6, .int .i64 (a0.length : Int)), (7, .int .i64 s2)] := hf
    replace hF : impl_isSize_l1 a0 s2 = some lr := hF
    unfold impl_isSize_l1 at hF
    refine c_seq ?_
    refine c_region ?_
    refine st hf rfl rfl (by decide) (r_lss hf rfl rfl) fun a hf => ?_
    refine c_nt ?_
    refine c_seq ?_
    rcases of_ite hF with ⟨hb3, hF⟩ | ⟨hb3, hF⟩
    · refine c_ift hf rfl hb3 ?_
      refine c_skip ?_
      refine n_then ?_
      refine c_seq ?_
      refine c_block ?_
      refine c_seq ?_
      refine c_region ?_
      obtain ⟨hc4, hF⟩ := of_guard hF
      obtain ⟨ad5, c5, he5, hl5⟩ := Ro.el fI64 h0 0 hc4.1 hc4.2
      refine st hf rfl rfl (by decide) (r_idx Try.underlying61 sz2 hf rfl ⟨_, he5⟩ rfl hc4.1 hc4.2) fun a hf => ?_
      refine st hf rfl rfl (by decide) (r_load_cell ty2 hf rfl (hl5.below hw.below)) fun a hf => ?_
      refine st hf rfl rfl (by decide) (r_assign hf rfl) fun a hf => ?_
      refine c_nt ?_
      refine c_seq ?_
      obtain ⟨s7, hT6, hG6⟩ := of_bind hF
      clear hF
      refine c_meet (fun (s : Bool) a w => ∃ ρ, Wd w0 ρ w ∧ Fr 18 a [(5, va0), (6, .int .i64 (a0.length : Int)), (7, .int .i64 s2), (16, .bool s)]) s7 ?_ ?_
      · have hF := hT6
        refine c_region ?_
        refine st hf rfl rfl (by decide) (r_move hf rfl) fun a hf => ?_
        refine st hf rfl rfl (by decide) (r_lss hf rfl rfl) fun a hf => ?_
        refine st hf rfl rfl (by decide) (r_move hf rfl) fun a hf => ?_
        rcases of_ite hF with ⟨hb8, hF⟩ | ⟨hb8, hF⟩
        · refine st_no (b := true) hf rfl rfl rfl hb8 rfl (by decide) fun a hf => ?_
          refine st_no (b := true) hf rfl rfl rfl hb8 rfl (by decide) fun a hf => ?_
          refine st hf rfl rfl (by decide) (r_pick (b := true) hf rfl hb8 rfl) fun a hf => ?_
          refine c_nil ⟨rfl, ?_⟩
          obtain rfl := Option.some.inj hF
          exact ⟨_, hw, hf.sub ⟨rfl, rfl, rfl, rfl, trivial⟩⟩
        · refine st_g (b := false) hf rfl rfl rfl hb8 rfl (by decide) (r_move hf rfl) fun a hf => ?_
          refine st_g (b := false) hf rfl rfl rfl hb8 rfl (by decide) (r_gtr hf rfl rfl) fun a hf => ?_
          refine st hf rfl rfl (by decide) (r_pick (b := false) hf rfl hb8 rfl) fun a hf => ?_
          refine c_nil ⟨rfl, ?_⟩
          obtain rfl := Option.some.inj hF
          exact ⟨_, hw, hf.sub ⟨rfl, rfl, rfl, rfl, trivial⟩⟩
      · rintro a w ⟨ρ, hw, hf⟩
        replace hf : Fr 18 a [(5, va0), (6, .int .i64 (a0.length : Int)), (7, .int .i64 s2), (16, .bool s7)] := hf
        have hF := hG6
        refine n_then ?_
        rcases of_ite hF with ⟨hb9, hF⟩ | ⟨hb9, hF⟩
        · refine c_ift hf rfl hb9 ?_
          refine c_seq ?_
          refine c_region ?_
          refine st hf rfl rfl (by decide) (r_assign hf rfl) fun a hf => ?_
          refine c_nt ?_
          refine c_retc ?_
          obtain rfl := Option.some.inj hF
          refine r_block ?_
          refine r_then ?_
          refine Rnd.rets fun ho => ?_
          subst ho
          have hF := hG1
          dsimp only at hF
          obtain rfl := Option.some.inj hF
          refine r_block ?_
          refine r_then ?_
          refine c_ret hf (res_tmp Try.results105 hf rfl) ?_
          exact ⟨_, rfl, hw.below, rfl⟩
        · refine c_iff hf rfl hb9 ?_
          refine c_skip ?_
          refine n_block ?_
          refine n_then ?_
          refine c_region ?_
          refine st hf rfl rfl (by decide) (r_add hf rfl rfl) fun a hf => ?_
          refine st hf rfl rfl (by decide) (r_move hf rfl) fun a hf => ?_
          refine c_nil ?_
          obtain rfl := Option.some.inj hF
          exact Rnd.goes ⟨_, hw, hf.sub ⟨rfl, rfl, rfl, trivial⟩⟩
    · refine c_iff hf rfl hb3 ?_
      refine c_exit ?_
      refine x_then ?_
      obtain rfl := Option.some.inj hF
      exact Rnd.stops ⟨_, hw, hf.sub trivial⟩
  · rintro s2 a w hs ⟨ρ, hw, hf⟩
    subst hs
    replace hf : Fr 18 a [] := hf
    have hF := hG1
    dsimp only at hF
    refine x_block ?_
    refine n_then ?_
    refine c_seq ?_
    refine c_region ?_
    refine st hf rfl rfl (by decide) (r_assign hf rfl) fun a hf => ?_
    refine c_nt ?_
    refine c_retc ?_
    obtain rfl := Option.some.inj hF
    refine c_ret hf (res_tmp Try.results105 hf rfl) ?_
    exact ⟨_, rfl, hw.below, rfl⟩
/-! f133 -/
noncomputable def impl_hasZero (a0 : Prod) : Option Bool :=
  (if (decide (a0.1 = zForm)) = true then (some true) else (if (decide (a0.2.1 = zForm)) = true then (some true) else (some (decide (a0.2.2 = zForm))))).bind fun (s2 : Bool) => some (s2)
theorem impl_hasZero_ok {w0 : World} {a0 : Prod}   {r : Bool} (hF : impl_hasZero a0 = some r) :
    Calls Try.prog 133 [.agg (cProd.enc a0).toArray].toArray w0 fun e w => ∃ v, e = .returned v ∧ Below w0.heap.size w0 w ∧ .bool r = v := by
  refine calls_of (k := 19) Try.func133 rfl rfl (Nat.le_of_ble_eq_true rfl) fun a hf => ?_
  replace hf : Fr 19 a [(0, .agg (cProd.enc a0).toArray)] := hf
  refine c_start fun w ρ hw => ?_
  unfold impl_hasZero at hF
  refine c_seq ?_
  refine c_region ?_
  refine st_ex hf rfl rfl (by decide) (r_box (cs := cProd.enc a0) 1 hw hf rfl rfl) fun a v w hf hΦ => ?_
  obtain ⟨g1, ρ, rfl, hw, hE, o1⟩ := hΦ
  refine st hf rfl rfl (by decide) (r_assign hf rfl) fun a hf => ?_
  refine c_nt ?_
  refine c_seq ?_
  obtain ⟨s2, hT1, hG1⟩ := of_bind hF
  clear hF
  refine c_meet (fun (s : Bool) a w => ∃ ρ, Wd w0 ρ w ∧ Fr 19 a [(2, .bool s)]) s2 ?_ ?_
  · have hF := hT1
    refine c_region ?_
    refine st hf rfl rfl (by decide) (r_fa fa78_0 hf rfl) fun a hf => ?_
    refine st hf rfl rfl (by decide) (r_load_agg ty39 hf rfl (o1.cl.lens lProd_0) (cForm.len _)) fun a hf => ?_
    refine st hf rfl rfl (by decide) (r_build_arr (vs := []) (res := (cForm.enc zForm).toArray) Try.underlying39 sz5 ze39 hf rfl rfl rfl) fun a hf => ?_
    refine st hf rfl rfl (by decide) (r_eq (d := cForm) eq39 ⟨_, rfl⟩ gt39 hf rfl rfl) fun a hf => ?_
    refine st hf rfl rfl (by decide) (r_move hf rfl) fun a hf => ?_
    rcases of_ite hF with ⟨hb3, hF⟩ | ⟨hb3, hF⟩
    · refine st_no (b := true) hf rfl rfl rfl hb3 rfl (by decide) fun a hf => ?_
      refine st_no (b := true) hf rfl rfl rfl hb3 rfl (by decide) fun a hf => ?_
      refine st_no (b := true) hf rfl rfl rfl hb3 rfl (by decide) fun a hf => ?_
      refine st_no (b := true) hf rfl rfl rfl hb3 rfl (by decide) fun a hf => ?_
      refine st hf rfl rfl (by decide) (r_pick (b := true) hf rfl hb3 rfl) fun a hf => ?_
      refine st hf rfl rfl (by decide) (r_move hf rfl) fun a hf => ?_
      refine st_no (b := true) hf rfl rfl rfl rfl rfl (by decide) fun a hf => ?_
      refine st_no (b := true) hf rfl rfl rfl rfl rfl (by decide) fun a hf => ?_
      refine st_no (b := true) hf rfl rfl rfl rfl rfl (by decide) fun a hf => ?_
      refine st_no (b := true) hf rfl rfl rfl rfl rfl (by decide) fun a hf => ?_
      refine st hf rfl rfl (by decide) (r_pick (b := true) hf rfl rfl rfl) fun a hf => ?_
      refine st hf rfl rfl (by decide) (r_assign hf rfl) fun a hf => ?_
      refine c_nil ⟨rfl, ?_⟩
      obtain rfl := Option.some.inj hF
      exact ⟨_, hw, hf.sub ⟨rfl, trivial⟩⟩
    · refine st_g (b := false) hf rfl rfl rfl hb3 rfl (by decide) (r_fa fa78_1 hf rfl) fun a hf => ?_
      refine st_g (b := false) hf rfl rfl rfl hb3 rfl (by decide) (r_load_agg ty39 hf rfl (o1.cl.lens lProd_1) (cForm.len _)) fun a hf => ?_
      refine st_g (b := false) hf rfl rfl rfl hb3 rfl (by decide) (r_build_arr (vs := []) (res := (cForm.enc zForm).toArray) Try.underlying39 sz5 ze39 hf rfl rfl rfl) fun a hf => ?_
      refine st_g (b := false) hf rfl rfl rfl hb3 rfl (by decide) (r_eq (d := cForm) eq39 ⟨_, rfl⟩ gt39 hf rfl rfl) fun a hf => ?_
      refine st hf rfl rfl (by decide) (r_pick (b := false) hf rfl hb3 rfl) fun a hf => ?_
      refine st hf rfl rfl (by decide) (r_move hf rfl) fun a hf => ?_
      rcases of_ite hF with ⟨hb4, hF⟩ | ⟨hb4, hF⟩
      · refine st_no (b := true) hf rfl rfl rfl hb4 rfl (by decide) fun a hf => ?_
        refine st_no (b := true) hf rfl rfl rfl hb4 rfl (by decide) fun a hf => ?_
        refine st_no (b := true) hf rfl rfl rfl hb4 rfl (by decide) fun a hf => ?_
        refine st_no (b := true) hf rfl rfl rfl hb4 rfl (by decide) fun a hf => ?_
        refine st hf rfl rfl (by decide) (r_pick (b := true) hf rfl hb4 rfl) fun a hf => ?_
        refine st hf rfl rfl (by decide) (r_assign hf rfl) fun a hf => ?_
        refine c_nil ⟨rfl, ?_⟩
        obtain rfl := Option.some.inj hF
        exact ⟨_, hw, hf.sub ⟨rfl, trivial⟩⟩
      · refine st_g (b := false) hf rfl rfl rfl hb4 rfl (by decide) (r_fa fa78_2 hf rfl) fun a hf => ?_
        refine st_g (b := false) hf rfl rfl rfl hb4 rfl (by decide) (r_load_agg ty39 hf rfl (o1.cl.lens lProd_2) (cForm.len _)) fun a hf => ?_
        refine st_g (b := false) hf rfl rfl rfl hb4 rfl (by decide) (r_build_arr (vs := []) (res := (cForm.enc zForm).toArray) Try.underlying39 sz5 ze39 hf rfl rfl rfl) fun a hf => ?_
        refine st_g (b := false) hf rfl rfl rfl hb4 rfl (by decide) (r_eq (d := cForm) eq39 ⟨_, rfl⟩ gt39 hf rfl rfl) fun a hf => ?_
        refine st hf rfl rfl (by decide) (r_pick (b := false) hf rfl hb4 rfl) fun a hf => ?_
        refine st hf rfl rfl (by decide) (r_assign hf rfl) fun a hf => ?_
        refine c_nil ⟨rfl, ?_⟩
        obtain rfl := Option.some.inj hF
        exact ⟨_, hw, hf.sub ⟨rfl, trivial⟩⟩
  · rintro a w ⟨ρ, hw, hf⟩
    replace hf : Fr 19 a [(2, .bool s2)] := hf
    have hF := hG1
    refine n_then ?_
    refine c_retc ?_
    obtain rfl := Option.some.inj hF
    refine c_ret hf (res_tmp Try.results133 hf rfl) ?_
    exact ⟨_, rfl, hw.below, rfl⟩
/-! f85 -/
noncomputable def impl_isForm_l1 (a0 : Int) (a1 : Int) (a2 : Form) (s2 : Int) : Option (LR Int Bool) :=
  if (decide (s2 < 9)) = true then (if 0 ≤ s2 ∧ s2 < 9 then ((if (decide (a0 ≤ ((vg 0 a2 s2).toNat : Int))) = true then (some true) else (if (decide (((vg 0 a2 s2).toNat : Int) ≠ 0)) = true then (some (decide (a1 ≤ s2))) else (some false))).bind fun (s6 : Bool) => if s6 = true then (some (.ret false)) else (some (.next (w64 (s2 + 1))))) else none) else (some (.stop s2))
noncomputable def impl_isForm (a0 : Int) (a1 : Int) (a2 : Form) : Option Bool :=
  (iter (fun s => impl_isForm_l1 a0 a1 a2 s) 0).bind fun o => match o with | .stop s2 => (some (true)) | .ret r => some r | .next _ => none
theorem impl_isForm_ok {w0 : World} {a0 : Int} {a1 : Int} {a2 : Form}   {r : Bool} (hF : impl_isForm a0 a1 a2 = some r) :
    Calls Try.prog 85 [.int .i64 a0, .int .i64 a1, .agg (cForm.enc a2).toArray].toArray w0 fun e w => ∃ v, e = .returned v ∧ Below w0.heap.size w0 w ∧ .bool r = v := by
  refine calls_of (k := 28) Try.func85 rfl rfl (Nat.le_of_ble_eq_true rfl) fun a hf => ?_
  replace hf : Fr 28 a [(0, .int .i64 a0), (1, .int .i64 a1), (2, .agg (cForm.enc a2).toArray)] := hf
  refine c_start fun w ρ hw => ?_
  unfold impl_isForm at hF
  refine c_seq ?_
  refine c_region ?_
  refine st_ex hf rfl rfl (by decide) (r_box (cs := cForm.enc a2) 1 hw hf rfl rfl) fun a v w hf hΦ => ?_
  obtain ⟨g1, ρ, rfl, hw, hE, o1⟩ := hΦ
  refine st hf rfl rfl (by decide) (r_assign hf rfl) fun a hf => ?_
  refine c_nt ?_
  refine c_seq ?_
  refine c_seq ?_
  refine c_region ?_
  refine st hf rfl rfl (by decide) (r_load_agg ty39 hf rfl o1.cl (cForm.len _)) fun a hf => ?_
  refine st hf rfl rfl (by decide) (r_move hf rfl) fun a hf => ?_
  refine c_nt ?_
  obtain ⟨ol1, ho1, hG1⟩ := of_bind hF
  clear hF
  refine c_block (c_loop (id := 0) (fun s => impl_isForm_l1 a0 a1 a2 s) (fun (s : Int) a w => ∃ ρ, Wd w0 ρ w ∧ Fr 28 a [(0, .int .i64 a0), (1, .int .i64 a1), (9, .agg (cForm.enc a2).toArray), (10, .int .i64 s)]) (fun (s : Int) a w => ∃ ρ, Wd w0 ρ w ∧ Fr 28 a []) ho1 ⟨_, hw, hf.sub ⟨rfl, rfl, rfl, rfl, trivial⟩⟩ ?_ ?_)
  · rintro s2 lr a w ⟨ρ, hw, hf⟩ hF
    replace hf : Fr 28 a [(0, .int .i64 a0), (1, .int .i64 a1), (9, .agg (cForm.enc a2).toArray), (10, .int .i64 s2)] := hf
    replace hF : impl_isForm_l1 a0 a1 a2 s2 = some lr := hF
    unfold impl_isForm_l1 at hF
    refine c_seq ?_
    refine c_region ?_
    refine st hf rfl rfl (by decide) (r_lss hf rfl rfl) fun a hf => ?_
    refine c_nt ?_
    refine c_seq ?_
    rcases of_ite hF with ⟨hb3, hF⟩ | ⟨hb3, hF⟩
    · refine c_ift hf rfl hb3 ?_
      refine c_skip ?_
      refine n_then ?_
      refine c_seq ?_
      refine c_block ?_
      refine c_seq ?_
      refine c_region ?_
      refine st hf rfl rfl (by decide) (r_move hf rfl) fun a hf => ?_
      obtain ⟨hc4, hF⟩ := of_guard hF
      refine st hf rfl rfl (by decide) (r_index_lc Try.underlying39 ty5 hf rfl rfl hc4.1 hc4.2 (Lens.vec 0 fU8 s2 hc4.1 hc4.2) rfl) fun a hf => ?_
      refine st hf rfl rfl (by decide) (r_assign hf rfl) fun a hf => ?_
      refine st hf rfl rfl (by decide) (r_assign hf rfl) fun a hf => ?_
      refine c_nt ?_
      refine c_seq ?_
      obtain ⟨s6, hT5, hG5⟩ := of_bind hF
      clear hF
      refine c_meet (fun (s : Bool) a w => ∃ ρ, Wd w0 ρ w ∧ Fr 28 a [(0, .int .i64 a0), (1, .int .i64 a1), (9, .agg (cForm.enc a2).toArray), (10, .int .i64 s2), (26, .bool s)]) s6 ?_ ?_
      · have hF := hT5
        refine c_region ?_
        refine st hf rfl rfl (by decide) (r_move hf rfl) fun a hf => ?_
        refine st hf rfl rfl (by decide) (r_conv_u8_i64 Try.underlying5 Try.underlying2 hf rfl) fun a hf => ?_
        refine st hf rfl rfl (by decide) (r_move hf rfl) fun a hf => ?_
        refine st hf rfl rfl (by decide) (r_geq hf rfl rfl) fun a hf => ?_
        refine st hf rfl rfl (by decide) (r_move hf rfl) fun a hf => ?_
        rcases of_ite hF with ⟨hb7, hF⟩ | ⟨hb7, hF⟩
        · refine st_no (b := true) hf rfl rfl rfl hb7 rfl (by decide) fun a hf => ?_
          refine st_no (b := true) hf rfl rfl rfl hb7 rfl (by decide) fun a hf => ?_
          refine st_no (b := true) hf rfl rfl rfl hb7 rfl (by decide) fun a hf => ?_
          refine st_nu hf rfl rfl rfl rfl (by decide) fun a hf => ?_
          refine st_nu hf rfl rfl rfl rfl (by decide) fun a hf => ?_
          refine st_nu hf rfl rfl rfl rfl (by decide) fun a hf => ?_
          refine st_no (b := true) hf rfl rfl rfl hb7 rfl (by decide) fun a hf => ?_
          refine st hf rfl rfl (by decide) (r_pick (b := true) hf rfl hb7 rfl) fun a hf => ?_
          refine c_nil ⟨rfl, ?_⟩
          obtain rfl := Option.some.inj hF
          exact ⟨_, hw, hf.sub ⟨rfl, rfl, rfl, rfl, rfl, trivial⟩⟩
        · refine st_g (b := false) hf rfl rfl rfl hb7 rfl (by decide) (r_move hf rfl) fun a hf => ?_
          refine st_g (b := false) hf rfl rfl rfl hb7 rfl (by decide) (r_neq hf rfl rfl) fun a hf => ?_
          refine st_g (b := false) hf rfl rfl rfl hb7 rfl (by decide) (r_move hf rfl) fun a hf => ?_
          rcases of_ite hF with ⟨hb8, hF⟩ | ⟨hb8, hF⟩
          · refine st_g (b := true) hf rfl rfl rfl hb8 rfl (by decide) (r_move hf rfl) fun a hf => ?_
            refine st_g (b := true) hf rfl rfl rfl hb8 rfl (by decide) (r_move hf rfl) fun a hf => ?_
            refine st_g (b := true) hf rfl rfl rfl hb8 rfl (by decide) (r_geq hf rfl rfl) fun a hf => ?_
            refine st_g (b := false) hf rfl rfl rfl hb7 rfl (by decide) (r_pick (b := true) hf rfl hb8 rfl) fun a hf => ?_
            refine st hf rfl rfl (by decide) (r_pick (b := false) hf rfl hb7 rfl) fun a hf => ?_
            refine c_nil ⟨rfl, ?_⟩
            obtain rfl := Option.some.inj hF
            exact ⟨_, hw, hf.sub ⟨rfl, rfl, rfl, rfl, rfl, trivial⟩⟩
          · refine st_no (b := false) hf rfl rfl rfl hb8 rfl (by decide) fun a hf => ?_
            refine st_no (b := false) hf rfl rfl rfl hb8 rfl (by decide) fun a hf => ?_
            refine st_no (b := false) hf rfl rfl rfl hb8 rfl (by decide) fun a hf => ?_
            refine st_g (b := false) hf rfl rfl rfl hb7 rfl (by decide) (r_pick (b := false) hf rfl hb8 rfl) fun a hf => ?_
            refine st hf rfl rfl (by decide) (r_pick (b := false) hf rfl hb7 rfl) fun a hf => ?_
            refine c_nil ⟨rfl, ?_⟩
            obtain rfl := Option.some.inj hF
            exact ⟨_, hw, hf.sub ⟨rfl, rfl, rfl, rfl, rfl, trivial⟩⟩
      · rintro a w ⟨ρ, hw, hf⟩
        replace hf : Fr 28 a [(0, .int .i64 a0), (1, .int .i64 a1), (9, .agg (cForm.enc a2).toArray), (10, .int .i64 s2), (26, .bool s6)] := hf
        have hF := hG5
        refine n_then ?_
        rcases of_ite hF with ⟨hb9, hF⟩ | ⟨hb9, hF⟩
        · refine c_ift hf rfl hb9 ?_
          refine c_seq ?_
          refine c_region ?_
          refine st hf rfl rfl (by decide) (r_assign hf rfl) fun a hf => ?_
          refine c_nt ?_
          refine c_retc ?_
          obtain rfl := Option.some.inj hF
          refine r_block ?_
          refine r_then ?_
          refine Rnd.rets fun ho => ?_
          subst ho
          have hF := hG1
          dsimp only at hF
          obtain rfl := Option.some.inj hF
          refine r_block ?_
          refine r_then ?_
          refine c_ret hf (res_tmp Try.results85 hf rfl) ?_
          exact ⟨_, rfl, hw.below, rfl⟩
        · refine c_iff hf rfl hb9 ?_
          refine c_skip ?_
          refine n_block ?_
          refine n_then ?_
          refine c_region ?_
          refine st hf rfl rfl (by decide) (r_add hf rfl rfl) fun a hf => ?_
          refine st hf rfl rfl (by decide) (r_move hf rfl) fun a hf => ?_
          refine c_nil ?_
          obtain rfl := Option.some.inj hF
          exact Rnd.goes ⟨_, hw, hf.sub ⟨rfl, rfl, rfl, rfl, trivial⟩⟩
    · refine c_iff hf rfl hb3 ?_
      refine c_exit ?_
      refine x_then ?_
      obtain rfl := Option.some.inj hF
      exact Rnd.stops ⟨_, hw, hf.sub trivial⟩
  · rintro s2 a w hs ⟨ρ, hw, hf⟩
    subst hs
    replace hf : Fr 28 a [] := hf
    have hF := hG1
    dsimp only at hF
    refine x_block ?_
    refine n_then ?_
    refine c_seq ?_
    refine c_region ?_
    refine st hf rfl rfl (by decide) (r_assign hf rfl) fun a hf => ?_
    refine c_nt ?_
    refine c_retc ?_
    obtain rfl := Option.some.inj hF
    refine c_ret hf (res_tmp Try.results85 hf rfl) ?_
    exact ⟨_, rfl, hw.below, rfl⟩
/-! f87 -/
noncomputable def impl_factors (a0 : Prod) : Option Forms :=
  some ((#v[a0.1, a0.2.1, a0.2.2] : Forms))
theorem impl_factors_ok {w0 : World} {a0 : Prod}   {r : Forms} (hF : impl_factors a0 = some r) :
    Calls Try.prog 87 [.agg (cProd.enc a0).toArray].toArray w0 fun e w => ∃ v, e = .returned v ∧ Below w0.heap.size w0 w ∧ .agg (cForms.enc r).toArray = v := by
  refine calls_of (k := 10) Try.func87 rfl rfl (Nat.le_of_ble_eq_true rfl) fun a hf => ?_
  replace hf : Fr 10 a [(0, .agg (cProd.enc a0).toArray)] := hf
  refine c_start fun w ρ hw => ?_
  unfold impl_factors at hF
  refine c_seq ?_
  refine c_region ?_
  refine st_ex hf rfl rfl (by decide) (r_box (cs := cProd.enc a0) 1 hw hf rfl rfl) fun a v w hf hΦ => ?_
  obtain ⟨g1, ρ, rfl, hw, hE, o1⟩ := hΦ
  refine st_ex hf rfl rfl (by decide) (r_alloc (cs := cForms.enc zForms) 2 ze91 rfl hw) fun a v w hf hΦ => ?_
  obtain ⟨g2, ρ, rfl, hw, hE, o2⟩ := hΦ
  replace o1 := o1.ext hE
  refine c_nt ?_
  refine c_seq ?_
  refine c_region ?_
  refine st hf rfl rfl (by decide) (r_fa fa78_0 hf rfl) fun a hf => ?_
  refine st hf rfl rfl (by decide) (r_load_agg ty39 hf rfl (o1.cl.lens lProd_0) (cForm.len _)) fun a hf => ?_
  refine st hf rfl rfl (by decide) (r_fa fa78_1 hf rfl) fun a hf => ?_
  refine st hf rfl rfl (by decide) (r_load_agg ty39 hf rfl (o1.cl.lens lProd_1) (cForm.len _)) fun a hf => ?_
  refine st hf rfl rfl (by decide) (r_fa fa78_2 hf rfl) fun a hf => ?_
  refine st hf rfl rfl (by decide) (r_load_agg ty39 hf rfl (o1.cl.lens lProd_2) (cForm.len _)) fun a hf => ?_
  refine st hf rfl rfl (by decide) (r_build_arr (vs := [(0, .agg (cForm.enc a0.1).toArray), (1, .agg (cForm.enc a0.2.1).toArray), (2, .agg (cForm.enc a0.2.2).toArray)]) (res := (cForms.enc (#v[a0.1, a0.2.1, a0.2.2] : Forms)).toArray) Try.underlying91 sz39 ze91 hf rfl rfl ((fill_lens (d := cForms) (z := zForms) (Lens.vec zForm cForm (0 : Int) (by decide) (by decide)) rfl rfl).trans ((fill_lens (d := cForms) (z := vs zForms 0 a0.1) (Lens.vec zForm cForm (1 : Int) (by decide) (by decide)) rfl rfl).trans ((fill_lens (d := cForms) (z := vs (vs zForms 0 a0.1) 1 a0.2.1) (Lens.vec zForm cForm (2 : Int) (by decide) (by decide)) rfl rfl).trans rfl)))) fun a hf => ?_
  refine st_skip hf rfl rfl (r_store_w (cs' := cForms.enc (#v[a0.1, a0.2.1, a0.2.2] : Forms)) hw o2 (by decide) ty91 (cForms.len _) (cForms.len _) (cForms.one _) hf rfl rfl rfl) fun a w hf hΦ => ?_
  obtain ⟨hw, hA, o2⟩ := hΦ
  replace o1 := o1.adv hA (by decide)
  refine c_nt ?_
  refine c_retc ?_
  obtain rfl := Option.some.inj hF
  refine c_ret hf (res_cell Try.results87 ty91 hf rfl o2.cl (cForms.len _)) ?_
  exact ⟨_, rfl, hw.below, rfl⟩
/-! f131 -/
noncomputable def impl_isProduct_l3 (a0 : Int) (a1 : Vec3) (x1 : Forms) (s4 : Int) : Option (LR Int Bool) :=
  if (decide (s4 < 3)) = true then (if 0 ≤ s4 ∧ s4 < 3 then ((impl_isForm a0 (vg 0 a1 s4) (vg zForm x1 s4)).bind fun x7 => if (!x7) = true then (some (.ret false)) else (some (.next (w64 (s4 + 1))))) else none) else (some (.stop s4))
noncomputable def impl_isProduct (a0 : Int) (a1 : Vec3) (a2 : Prod) : Option Bool :=
  (impl_factors a2).bind fun x1 => (iter (fun s => impl_isProduct_l3 a0 a1 x1 s) 0).bind fun o => match o with | .stop s4 => ((impl_hasZero a2).bind fun x10 => some (!x10)) | .ret r => some r | .next _ => none
theorem impl_isProduct_ok {w0 : World} {a0 : Int} {a1 : Vec3} {a2 : Prod}   {r : Bool} (hF : impl_isProduct a0 a1 a2 = some r) :
    Calls Try.prog 131 [.int .i64 a0, .agg (cVec3.enc a1).toArray, .agg (cProd.enc a2).toArray].toArray w0 fun e w => ∃ v, e = .returned v ∧ Below w0.heap.size w0 w ∧ .bool r = v := by
  refine calls_of (k := 26) Try.func131 rfl rfl (Nat.le_of_ble_eq_true rfl) fun a hf => ?_
  replace hf : Fr 26 a [(0, .int .i64 a0), (1, .agg (cVec3.enc a1).toArray), (2, .agg (cProd.enc a2).toArray)] := hf
  refine c_start fun w ρ hw => ?_
  unfold impl_isProduct at hF
  refine c_seq ?_
  refine c_region ?_
  refine st_ex hf rfl rfl (by decide) (r_box (cs := cVec3.enc a1) 1 hw hf rfl rfl) fun a v w hf hΦ => ?_
  obtain ⟨g1, ρ, rfl, hw, hE, o1⟩ := hΦ
  refine st_ex hf rfl rfl (by decide) (r_box (cs := cProd.enc a2) 2 hw hf rfl rfl) fun a v w hf hΦ => ?_
  obtain ⟨g2, ρ, rfl, hw, hE, o2⟩ := hΦ
  replace o1 := o1.ext hE
  refine st hf rfl rfl (by decide) (r_assign hf rfl) fun a hf => ?_
  refine c_nt ?_
  refine c_seq ?_
  refine c_seq ?_
  refine c_region ?_
  refine st hf rfl rfl (by decide) (r_load_agg ty78 hf rfl o2.cl (cProd.len _)) fun a hf => ?_
  obtain ⟨x1, hx2, hF⟩ := of_bind hF
  refine st_fn 3 hw hf rfl rfl (by decide) (r_fn en87 hf rfl) (impl_factors_ok  hx2) fun a v w ρ hf hw hE hN hΦ => ?_
  obtain rfl := hΦ
  replace o1 := o1.ext hE
  replace o2 := o2.ext hE
  refine st hf rfl rfl (by decide) (r_move hf rfl) fun a hf => ?_
  refine c_nt ?_
  obtain ⟨ol3, ho3, hG3⟩ := of_bind hF
  clear hF
  refine c_block (c_loop (id := 0) (fun s => impl_isProduct_l3 a0 a1 x1 s) (fun (s : Int) a w => ∃ ρ, Wd w0 ρ w ∧ Fr 26 a [(0, .int .i64 a0), (4, .pointer (some ((⟨g1, 0, none⟩ : Addr).add 0))), (5, .pointer (some ((⟨g2, 0, none⟩ : Addr).add 0))), (10, .agg (cForms.enc x1).toArray), (11, .int .i64 s)] ∧ Va ρ w 1 g1 89 (cVec3.enc a1) ∧ Va ρ w 2 g2 78 (cProd.enc a2)) (fun (s : Int) a w => ∃ ρ, Wd w0 ρ w ∧ Fr 26 a [(5, .pointer (some ((⟨g2, 0, none⟩ : Addr).add 0)))] ∧ Va ρ w 2 g2 78 (cProd.enc a2)) ho3 ⟨_, hw, hf.sub ⟨rfl, rfl, rfl, rfl, rfl, trivial⟩, o1, o2⟩ ?_ ?_)
  · rintro s4 lr a w ⟨ρ, hw, hf, o1, o2⟩ hF
    replace hf : Fr 26 a [(0, .int .i64 a0), (4, .pointer (some ((⟨g1, 0, none⟩ : Addr).add 0))), (5, .pointer (some ((⟨g2, 0, none⟩ : Addr).add 0))), (10, .agg (cForms.enc x1).toArray), (11, .int .i64 s4)] := hf
    replace o1 : Va ρ w 1 g1 89 (cVec3.enc a1) := o1
    replace o2 : Va ρ w 2 g2 78 (cProd.enc a2) := o2
    replace hF : impl_isProduct_l3 a0 a1 x1 s4 = some lr := hF
    unfold impl_isProduct_l3 at hF
    refine c_seq ?_
    refine c_region ?_
    refine st hf rfl rfl (by decide) (r_lss hf rfl rfl) fun a hf => ?_
    refine c_nt ?_
    refine c_seq ?_
    rcases of_ite hF with ⟨hb5, hF⟩ | ⟨hb5, hF⟩
    · refine c_ift hf rfl hb5 ?_
      refine c_skip ?_
      refine n_then ?_
      refine c_seq ?_
      refine c_block ?_
      refine c_seq ?_
      refine c_region ?_
      refine st hf rfl rfl (by decide) (r_move hf rfl) fun a hf => ?_
      obtain ⟨hc6, hF⟩ := of_guard hF
      refine st hf rfl rfl (by decide) (r_index_la Try.underlying91 ty39 hf rfl rfl hc6.1 hc6.2 (Lens.vec zForm cForm s4 hc6.1 hc6.2)) fun a hf => ?_
      refine st_ex hf rfl rfl (by decide) (r_alloc (cs := cForm.enc zForm) 4 ze39 rfl hw) fun a v w hf hΦ => ?_
      obtain ⟨g4, ρ, rfl, hw, hE, o4⟩ := hΦ
      replace o1 := o1.ext hE
      replace o2 := o2.ext hE
      refine st hf rfl rfl (by decide) (r_assign hf rfl) fun a hf => ?_
      refine st_skip hf rfl rfl (r_store_w (cs' := cForm.enc (vg zForm x1 s4)) hw o4 (by decide) ty39 (cForm.len _) (cForm.len _) (cForm.one _) hf rfl rfl rfl) fun a w hf hΦ => ?_
      obtain ⟨hw, hA, o4⟩ := hΦ
      replace o1 := o1.adv hA (by decide)
      replace o2 := o2.adv hA (by decide)
      refine c_nt ?_
      refine c_seq ?_
      replace hf : Fr 26 a [(0, .int .i64 a0), (4, .pointer (some ((⟨g1, 0, none⟩ : Addr).add 0))), (5, .pointer (some ((⟨g2, 0, none⟩ : Addr).add 0))), (7, .int .i64 s4), (8, .pointer (some ((⟨g4, 0, none⟩ : Addr).add 0))), (10, .agg (cForms.enc x1).toArray), (11, .int .i64 s4)] := hf.sub ⟨rfl, rfl, rfl, rfl, rfl, rfl, rfl, trivial⟩
      refine c_drawL (h := 5) mixed (by kernel_rfl) (by kernel_rfl) (fun ρ w => Va ρ w 1 g1 89 (cVec3.enc a1) ∧ Va ρ w 2 g2 78 (cProd.enc a2) ∧ Va ρ w 4 g4 39 (cForm.enc (vg zForm x1 s4))) ?_ [fun ρ w v => .int .i64 a0 = v, fun ρ w v => .int .i64 s4 = v, fun ρ w v => .pointer (some ((⟨g1, 0, none⟩ : Addr).add (0 + s4.toNat * 1))) = v, fun ρ w v => .int .i64 (vg 0 a1 s4) = v, fun ρ w v => .agg (cForm.enc (vg zForm x1 s4)).toArray = v] ?_ hw ⟨o1, o2, o4⟩ hf ?_ ?_
      · intro ρ w ρ' w' hE hG
        obtain ⟨o1, o2, o4⟩ := hG
        exact ⟨o1.ext hE, o2.ext hE, o4.ext hE⟩
      · exact LastsL.cons (fun _ _ _ _ _ _ h => h) <| LastsL.cons (fun _ _ _ _ _ _ h => h) <| LastsL.cons (fun _ _ _ _ _ _ h => h) <| LastsL.cons (fun _ _ _ _ _ _ h => h) <| LastsL.cons (fun _ _ _ _ _ _ h => h) <| LastsL.nil
      · refine StepsB.cons ?_ <| StepsB.cons ?_ <| StepsB.cons ?_ <| StepsB.cons ?_ <| StepsB.cons ?_ <| StepsB.nil
        · intro ρ w a hw hG hf hd K hK
          obtain ⟨o1, o2, o4⟩ := hG
          exact d_val (R := fun ρ w v => .int .i64 a0 = v) hw (wn rfl) (r_move hf rfl) rfl rfl hK
        · intro ρ w a hw hG hf hd K hK
          obtain ⟨o1, o2, o4⟩ := hG
          exact d_val (R := fun ρ w v => .int .i64 s4 = v) hw (wn rfl) (r_move hf rfl) rfl rfl hK
        · intro ρ w a hw hG hf hd K hK
          obtain ⟨o1, o2, o4⟩ := hG
          obtain ⟨_, ht, rfl⟩ := hd 1 (by kernel_rfl)
          replace hf := hf.more ht
          exact d_val (R := fun ρ w v => .pointer (some ((⟨g1, 0, none⟩ : Addr).add (0 + s4.toNat * 1))) = v) hw (wn rfl) (r_indexAddr_arr Try.underlying89 sz2 hf rfl rfl hc6.1 hc6.2) rfl rfl hK
        · intro ρ w a hw hG hf hd K hK
          obtain ⟨o1, o2, o4⟩ := hG
          obtain ⟨_, ht, rfl⟩ := hd 2 (by kernel_rfl)
          replace hf := hf.more ht
          exact d_val (R := fun ρ w v => .int .i64 (vg 0 a1 s4) = v) hw (wn rfl) (r_load_cell ty2 hf rfl (o1.cl.lens (Lens.vec 0 fI64 s4 hc6.1 hc6.2))) rfl rfl hK
        · intro ρ w a hw hG hf hd K hK
          obtain ⟨o1, o2, o4⟩ := hG
          exact d_val (R := fun ρ w v => .agg (cForm.enc (vg zForm x1 s4)).toArray = v) hw (wn rfl) (r_load_agg ty39 hf rfl o4.cl (cForm.len _)) rfl rfl hK
      · intro ρ w a hw hG hf hd
        obtain ⟨o1, o2, o4⟩ := hG
        replace hf : Fr 26 a [(0, .int .i64 a0), (4, .pointer (some ((⟨g1, 0, none⟩ : Addr).add 0))), (5, .pointer (some ((⟨g2, 0, none⟩ : Addr).add 0))), (7, .int .i64 s4), (8, .pointer (some ((⟨g4, 0, none⟩ : Addr).add 0))), (10, .agg (cForms.enc x1).toArray), (11, .int .i64 s4)] := hf
        obtain ⟨_, ht, rfl⟩ := hd 0 (by decide)
        replace hf := hf.more ht
        obtain ⟨_, ht, rfl⟩ := hd 3 (by decide)
        replace hf := hf.more ht
        obtain ⟨_, ht, rfl⟩ := hd 4 (by decide)
        replace hf := hf.more ht
        obtain ⟨x7, hx8, hF⟩ := of_bind hF
        refine st_fn 5 hw hf rfl rfl (by decide) (r_fn en85 hf rfl) (impl_isForm_ok  hx8) fun a v w ρ hf hw hE hN hΦ => ?_
        obtain rfl := hΦ
        replace o1 := o1.ext hE
        replace o2 := o2.ext hE
        replace o4 := o4.ext hE
        refine st hf rfl rfl (by decide) (r_not hf rfl) fun a hf => ?_
        refine c_nt ?_
        rcases of_ite hF with ⟨hb9, hF⟩ | ⟨hb9, hF⟩
        · refine c_ift hf rfl hb9 ?_
          refine c_seq ?_
          refine c_region ?_
          refine st hf rfl rfl (by decide) (r_assign hf rfl) fun a hf => ?_
          refine c_nt ?_
          refine c_retc ?_
          obtain rfl := Option.some.inj hF
          refine r_block ?_
          refine r_then ?_
          refine Rnd.rets fun ho => ?_
          subst ho
          have hF := hG3
          dsimp only at hF
          obtain rfl := Option.some.inj hF
          refine r_block ?_
          refine r_then ?_
          refine c_ret hf (res_tmp Try.results131 hf rfl) ?_
          exact ⟨_, rfl, hw.below, rfl⟩
        · refine c_iff hf rfl hb9 ?_
          refine c_skip ?_
          refine n_block ?_
          refine n_then ?_
          refine c_region ?_
          refine st hf rfl rfl (by decide) (r_add hf rfl rfl) fun a hf => ?_
          refine st hf rfl rfl (by decide) (r_move hf rfl) fun a hf => ?_
          refine c_nil ?_
          obtain rfl := Option.some.inj hF
          exact Rnd.goes ⟨_, hw, hf.sub ⟨rfl, rfl, rfl, rfl, rfl, trivial⟩, o1, o2⟩
    · refine c_iff hf rfl hb5 ?_
      refine c_exit ?_
      refine x_then ?_
      obtain rfl := Option.some.inj hF
      exact Rnd.stops ⟨_, hw, hf.sub ⟨rfl, trivial⟩, o2⟩
  · rintro s4 a w hs ⟨ρ, hw, hf, o2⟩
    subst hs
    replace hf : Fr 26 a [(5, .pointer (some ((⟨g2, 0, none⟩ : Addr).add 0)))] := hf
    replace o2 : Va ρ w 2 g2 78 (cProd.enc a2) := o2
    have hF := hG3
    dsimp only at hF
    refine x_block ?_
    refine n_then ?_
    refine c_seq ?_
    refine c_region ?_
    refine st hf rfl rfl (by decide) (r_load_agg ty78 hf rfl o2.cl (cProd.len _)) fun a hf => ?_
    obtain ⟨x10, hx11, hF⟩ := of_bind hF
    refine st_fn 6 hw hf rfl rfl (by decide) (r_fn en133 hf rfl) (impl_hasZero_ok  hx11) fun a v w ρ hf hw hE hN hΦ => ?_
    obtain rfl := hΦ
    replace o2 := o2.ext hE
    refine st hf rfl rfl (by decide) (r_not hf rfl) fun a hf => ?_
    refine st hf rfl rfl (by decide) (r_assign hf rfl) fun a hf => ?_
    refine c_nt ?_
    refine c_retc ?_
    obtain rfl := Option.some.inj hF
    refine c_ret hf (res_tmp Try.results131 hf rfl) ?_
    exact ⟨_, rfl, hw.below, rfl⟩
/-! f86 -/
noncomputable def impl_placesOf (a0 : Sch) : Option Vec3 :=
  some ((#v[w64 (a0.n * a0.m), w64 (a0.m * a0.k), w64 (a0.n * a0.k)] : Vec3))
theorem impl_placesOf_ok {w0 : World} {a0 : Sch} {va0 : Value} (h0 : Ro (kf cProd) w0 va0 a0.ps) {r : Vec3} (hF : impl_placesOf a0 = some r) :
    Calls Try.prog 86 [.agg ([.int .i64 a0.p, .int .i64 a0.n, .int .i64 a0.m, .int .i64 a0.k, va0]).toArray].toArray w0 fun e w => ∃ v, e = .returned v ∧ Below w0.heap.size w0 w ∧ .agg (cVec3.enc r).toArray = v := by
  refine calls_of (k := 19) Try.func86 rfl rfl (Nat.le_of_ble_eq_true rfl) fun a hf => ?_
  replace hf : Fr 19 a [(0, .agg ([.int .i64 a0.p, .int .i64 a0.n, .int .i64 a0.m, .int .i64 a0.k, va0]).toArray)] := hf
  refine c_start fun w ρ hw => ?_
  unfold impl_placesOf at hF
  refine c_seq ?_
  refine c_region ?_
  refine st_ex hf rfl rfl (by decide) (r_box (cs := [.int .i64 a0.p, .int .i64 a0.n, .int .i64 a0.m, .int .i64 a0.k, va0]) 1 hw hf rfl rfl) fun a v w hf hΦ => ?_
  obtain ⟨g1, ρ, rfl, hw, hE, o1⟩ := hΦ
  refine st_ex hf rfl rfl (by decide) (r_alloc (cs := cVec3.enc zVec3) 2 ze89 rfl hw) fun a v w hf hΦ => ?_
  obtain ⟨g2, ρ, rfl, hw, hE, o2⟩ := hΦ
  replace o1 := o1.ext hE
  refine c_nt ?_
  refine c_seq ?_
  refine c_region ?_
  refine st hf rfl rfl (by decide) (r_fa fa28_1 hf rfl) fun a hf => ?_
  refine st hf rfl rfl (by decide) (r_load_cell ty2 hf rfl (o1.cl.at_ 1 _ rfl)) fun a hf => ?_
  refine st hf rfl rfl (by decide) (r_fa fa28_2 hf rfl) fun a hf => ?_
  refine st hf rfl rfl (by decide) (r_load_cell ty2 hf rfl (o1.cl.at_ 2 _ rfl)) fun a hf => ?_
  refine st hf rfl rfl (by decide) (r_mul hf rfl rfl) fun a hf => ?_
  refine st hf rfl rfl (by decide) (r_fa fa28_2 hf rfl) fun a hf => ?_
  refine st hf rfl rfl (by decide) (r_load_cell ty2 hf rfl (o1.cl.at_ 2 _ rfl)) fun a hf => ?_
  refine st hf rfl rfl (by decide) (r_fa fa28_3 hf rfl) fun a hf => ?_
  refine st hf rfl rfl (by decide) (r_load_cell ty2 hf rfl (o1.cl.at_ 3 _ rfl)) fun a hf => ?_
  refine st hf rfl rfl (by decide) (r_mul hf rfl rfl) fun a hf => ?_
  refine st hf rfl rfl (by decide) (r_fa fa28_1 hf rfl) fun a hf => ?_
  refine st hf rfl rfl (by decide) (r_load_cell ty2 hf rfl (o1.cl.at_ 1 _ rfl)) fun a hf => ?_
  refine st hf rfl rfl (by decide) (r_fa fa28_3 hf rfl) fun a hf => ?_
  refine st hf rfl rfl (by decide) (r_load_cell ty2 hf rfl (o1.cl.at_ 3 _ rfl)) fun a hf => ?_
  refine st hf rfl rfl (by decide) (r_mul hf rfl rfl) fun a hf => ?_
  refine st hf rfl rfl (by decide) (r_build_arr (vs := [(0, .int .i64 (w64 (a0.n * a0.m))), (1, .int .i64 (w64 (a0.m * a0.k))), (2, .int .i64 (w64 (a0.n * a0.k)))]) (res := (cVec3.enc (#v[w64 (a0.n * a0.m), w64 (a0.m * a0.k), w64 (a0.n * a0.k)] : Vec3)).toArray) Try.underlying89 sz2 ze89 hf rfl rfl ((fill_lens (d := cVec3) (z := zVec3) (Lens.vec 0 fI64 (0 : Int) (by decide) (by decide)) rfl rfl).trans ((fill_lens (d := cVec3) (z := vs zVec3 0 (w64 (a0.n * a0.m))) (Lens.vec 0 fI64 (1 : Int) (by decide) (by decide)) rfl rfl).trans ((fill_lens (d := cVec3) (z := vs (vs zVec3 0 (w64 (a0.n * a0.m))) 1 (w64 (a0.m * a0.k))) (Lens.vec 0 fI64 (2 : Int) (by decide) (by decide)) rfl rfl).trans rfl)))) fun a hf => ?_
  refine st_skip hf rfl rfl (r_store_w (cs' := cVec3.enc (#v[w64 (a0.n * a0.m), w64 (a0.m * a0.k), w64 (a0.n * a0.k)] : Vec3)) hw o2 (by decide) ty89 (cVec3.len _) (cVec3.len _) (cVec3.one _) hf rfl rfl rfl) fun a w hf hΦ => ?_
  obtain ⟨hw, hA, o2⟩ := hΦ
  replace o1 := o1.adv hA (by decide)
  refine c_nt ?_
  refine c_retc ?_
  obtain rfl := Option.some.inj hF
  refine c_ret hf (res_cell Try.results86 ty89 hf rfl o2.cl (cVec3.len _)) ?_
  exact ⟨_, rfl, hw.below, rfl⟩
/-! f74 -/
noncomputable def impl_IsScheme_l10 (a0 : Sch) (s11 : Int) : Option (LR Int Bool) :=
  if (decide (s11 < (a0.ps.length : Int))) = true then (if 0 ≤ s11 ∧ s11 < (a0.ps.length : Int) then ((impl_placesOf a0).bind fun x15 => (impl_isProduct a0.p x15 (gl zProd a0.ps s11)).bind fun x17 => if (!x17) = true then (some (.ret false)) else (some (.next (w64 (s11 + 1))))) else none) else (some (.stop s11))
noncomputable def impl_IsScheme (a0 : Sch) : Option Bool :=
  ((impl_isPrime a0.p).bind fun x3 => if (!x3) = true then (some true) else ((impl_isSize ([a0.n, a0.m, a0.k])).bind fun x6 => if (!x6) = true then (some true) else (some (decide (30 < (a0.ps.length : Int)))))).bind fun (s2 : Bool) => if s2 = true then (some (false)) else ((iter (fun s => impl_IsScheme_l10 a0 s) 0).bind fun o => match o with | .stop s11 => (some (true)) | .ret r => some r | .next _ => none)
theorem impl_IsScheme_ok {w0 : World} {a0 : Sch} {va0 : Value} (h0 : Ro (kf cProd) w0 va0 a0.ps) {r : Bool} (hF : impl_IsScheme a0 = some r) :
    Calls Try.prog 74 [.agg ([.int .i64 a0.p, .int .i64 a0.n, .int .i64 a0.m, .int .i64 a0.k, va0]).toArray].toArray w0 fun e w => ∃ v, e = .returned v ∧ Below w0.heap.size w0 w ∧ .bool r = v := by
  refine calls_of (k := 41) Try.func74 rfl rfl (Nat.le_of_ble_eq_true rfl) fun a hf => ?_
  replace hf : Fr 41 a [(0, .agg ([.int .i64 a0.p, .int .i64 a0.n, .int .i64 a0.m, .int .i64 a0.k, va0]).toArray)] := hf
  refine c_start fun w ρ hw => ?_
  unfold impl_IsScheme at hF
  refine c_seq ?_
  refine c_region ?_
  refine st_ex hf rfl rfl (by decide) (r_box (cs := [.int .i64 a0.p, .int .i64 a0.n, .int .i64 a0.m, .int .i64 a0.k, va0]) 1 hw hf rfl rfl) fun a v w hf hΦ => ?_
  obtain ⟨g1, ρ, rfl, hw, hE, o1⟩ := hΦ
  refine st hf rfl rfl (by decide) (r_assign hf rfl) fun a hf => ?_
  refine c_nt ?_
  refine c_seq ?_
  refine c_seq ?_
  obtain ⟨s2, hT1, hG1⟩ := of_bind hF
  clear hF
  refine c_meet (fun (s : Bool) a w => ∃ ρ, Wd w0 ρ w ∧ Fr 41 a [(1, .pointer (some ((⟨g1, 0, none⟩ : Addr).add 0))), (25, .bool s)] ∧ Va ρ w 1 g1 28 ([.int .i64 a0.p, .int .i64 a0.n, .int .i64 a0.m, .int .i64 a0.k, va0])) s2 ?_ ?_
  · have hF := hT1
    refine c_region ?_
    refine st hf rfl rfl (by decide) (r_fa fa28_0 hf rfl) fun a hf => ?_
    refine st hf rfl rfl (by decide) (r_load_cell ty2 hf rfl (o1.cl.at_ 0 _ rfl)) fun a hf => ?_
    obtain ⟨x3, hx4, hF⟩ := of_bind hF
    refine st_fn 2 hw hf rfl rfl (by decide) (r_fn en104 hf rfl) (impl_isPrime_ok  hx4) fun a v w ρ hf hw hE hN hΦ => ?_
    obtain rfl := hΦ
    replace o1 := o1.ext hE
    refine st hf rfl rfl (by decide) (r_not hf rfl) fun a hf => ?_
    refine st hf rfl rfl (by decide) (r_move hf rfl) fun a hf => ?_
    rcases of_ite hF with ⟨hb5, hF⟩ | ⟨hb5, hF⟩
    · refine st_no (b := true) hf rfl rfl rfl hb5 rfl (by decide) fun a hf => ?_
      refine st_no (b := true) hf rfl rfl rfl hb5 rfl (by decide) fun a hf => ?_
      refine st_no (b := true) hf rfl rfl rfl hb5 rfl (by decide) fun a hf => ?_
      refine st_no (b := true) hf rfl rfl rfl hb5 rfl (by decide) fun a hf => ?_
      refine st_no (b := true) hf rfl rfl rfl hb5 rfl (by decide) fun a hf => ?_
      refine st_no (b := true) hf rfl rfl rfl hb5 rfl (by decide) fun a hf => ?_
      refine st_no (b := true) hf rfl rfl rfl hb5 rfl (by decide) fun a hf => ?_
      refine st_no (b := true) hf rfl rfl rfl hb5 rfl (by decide) fun a hf => ?_
      refine st_no (b := true) hf rfl rfl rfl hb5 rfl (by decide) fun a hf => ?_
      refine st hf rfl rfl (by decide) (r_pick (b := true) hf rfl hb5 rfl) fun a hf => ?_
      refine st hf rfl rfl (by decide) (r_move hf rfl) fun a hf => ?_
      refine st_no (b := true) hf rfl rfl rfl rfl rfl (by decide) fun a hf => ?_
      refine st_no (b := true) hf rfl rfl rfl rfl rfl (by decide) fun a hf => ?_
      refine st_no (b := true) hf rfl rfl rfl rfl rfl (by decide) fun a hf => ?_
      refine st_no (b := true) hf rfl rfl rfl rfl rfl (by decide) fun a hf => ?_
      refine st hf rfl rfl (by decide) (r_pick (b := true) hf rfl rfl rfl) fun a hf => ?_
      refine c_nil ⟨rfl, ?_⟩
      obtain rfl := Option.some.inj hF
      exact ⟨_, hw, hf.sub ⟨rfl, rfl, trivial⟩, o1⟩
    · refine st_g (b := false) hf rfl rfl rfl hb5 rfl (by decide) (r_fa fa28_1 hf rfl) fun a hf => ?_
      refine st_g (b := false) hf rfl rfl rfl hb5 rfl (by decide) (r_load_cell ty2 hf rfl (o1.cl.at_ 1 _ rfl)) fun a hf => ?_
      refine st_g (b := false) hf rfl rfl rfl hb5 rfl (by decide) (r_fa fa28_2 hf rfl) fun a hf => ?_
      refine st_g (b := false) hf rfl rfl rfl hb5 rfl (by decide) (r_load_cell ty2 hf rfl (o1.cl.at_ 2 _ rfl)) fun a hf => ?_
      refine st_g (b := false) hf rfl rfl rfl hb5 rfl (by decide) (r_fa fa28_3 hf rfl) fun a hf => ?_
      refine st_g (b := false) hf rfl rfl rfl hb5 rfl (by decide) (r_load_cell ty2 hf rfl (o1.cl.at_ 3 _ rfl)) fun a hf => ?_
      refine st_gex (b := false) hf rfl rfl rfl hb5 rfl (by decide) (r_lit (d := fI64) (xs := ([a0.n, a0.m, a0.k] : List Int)) (vs := [.int .i64 a0.n, .int .i64 a0.m, .int .i64 a0.k]) 3 Try.underlying61 el2 (Nat.le_of_ble_eq_true rfl) (Nat.le_of_ble_eq_true rfl) hw hf rfl rfl rfl) fun a v3 w hf hΦ => ?_
      obtain ⟨ρ, hw, hE, o3⟩ := hΦ
      replace o1 := o1.ext hE
      obtain ⟨x6, hx7, hF⟩ := of_bind hF
      refine st_gfn (b := false) 4 hw hf rfl rfl rfl hb5 rfl (by decide) (r_fn en105 hf rfl) (impl_isSize_ok o3.ro hx7) fun a v w ρ hf hw hE hN hΦ => ?_
      obtain rfl := hΦ
      replace o1 := o1.ext hE
      replace o3 := o3.ext hE
      refine st_g (b := false) hf rfl rfl rfl hb5 rfl (by decide) (r_not hf rfl) fun a hf => ?_
      refine st hf rfl rfl (by decide) (r_pick (b := false) hf rfl hb5 rfl) fun a hf => ?_
      refine st hf rfl rfl (by decide) (r_move hf rfl) fun a hf => ?_
      rcases of_ite hF with ⟨hb8, hF⟩ | ⟨hb8, hF⟩
      · refine st_no (b := true) hf rfl rfl rfl hb8 rfl (by decide) fun a hf => ?_
        refine st_no (b := true) hf rfl rfl rfl hb8 rfl (by decide) fun a hf => ?_
        refine st_no (b := true) hf rfl rfl rfl hb8 rfl (by decide) fun a hf => ?_
        refine st_no (b := true) hf rfl rfl rfl hb8 rfl (by decide) fun a hf => ?_
        refine st hf rfl rfl (by decide) (r_pick (b := true) hf rfl hb8 rfl) fun a hf => ?_
        refine c_nil ⟨rfl, ?_⟩
        obtain rfl := Option.some.inj hF
        exact ⟨_, hw, hf.sub ⟨rfl, rfl, trivial⟩, o1⟩
      · refine st_g (b := false) hf rfl rfl rfl hb8 rfl (by decide) (r_fa fa28_4 hf rfl) fun a hf => ?_
        refine st_g (b := false) hf rfl rfl rfl hb8 rfl (by decide) (r_load_cell ty26 hf rfl (o1.cl.at_ 4 _ rfl)) fun a hf => ?_
        refine st_g (b := false) hf rfl rfl rfl hb8 rfl (by decide) (r_len Try.underlying26 (h0.now hw) hf rfl) fun a hf => ?_
        refine st_g (b := false) hf rfl rfl rfl hb8 rfl (by decide) (r_gtr hf rfl rfl) fun a hf => ?_
        refine st hf rfl rfl (by decide) (r_pick (b := false) hf rfl hb8 rfl) fun a hf => ?_
        refine c_nil ⟨rfl, ?_⟩
        obtain rfl := Option.some.inj hF
        exact ⟨_, hw, hf.sub ⟨rfl, rfl, trivial⟩, o1⟩
  · rintro a w ⟨ρ, hw, hf, o1⟩
    replace hf : Fr 41 a [(1, .pointer (some ((⟨g1, 0, none⟩ : Addr).add 0))), (25, .bool s2)] := hf
    replace o1 : Va ρ w 1 g1 28 ([.int .i64 a0.p, .int .i64 a0.n, .int .i64 a0.m, .int .i64 a0.k, va0]) := o1
    have hF := hG1
    refine n_then ?_
    rcases of_ite hF with ⟨hb9, hF⟩ | ⟨hb9, hF⟩
    · refine c_ift hf rfl hb9 ?_
      refine c_seq ?_
      refine c_region ?_
      refine st hf rfl rfl (by decide) (r_assign hf rfl) fun a hf => ?_
      refine c_nt ?_
      refine c_retc ?_
      obtain rfl := Option.some.inj hF
      refine r_then ?_
      refine c_ret hf (res_tmp Try.results74 hf rfl) ?_
      exact ⟨_, rfl, hw.below, rfl⟩
    · refine c_iff hf rfl hb9 ?_
      refine c_skip ?_
      refine n_then ?_
      refine c_seq ?_
      refine c_seq ?_
      refine c_region ?_
      refine st hf rfl rfl (by decide) (r_fa fa28_4 hf rfl) fun a hf => ?_
      refine st hf rfl rfl (by decide) (r_load_cell ty26 hf rfl (o1.cl.at_ 4 _ rfl)) fun a hf => ?_
      refine st hf rfl rfl (by decide) (r_len Try.underlying26 (h0.now hw) hf rfl) fun a hf => ?_
      refine st hf rfl rfl (by decide) (r_move hf rfl) fun a hf => ?_
      refine c_nt ?_
      obtain ⟨ol10, ho10, hG10⟩ := of_bind hF
      clear hF
      refine c_block (c_loop (id := 0) (fun s => impl_IsScheme_l10 a0 s) (fun (s : Int) a w => ∃ ρ, Wd w0 ρ w ∧ Fr 41 a [(1, .pointer (some ((⟨g1, 0, none⟩ : Addr).add 0))), (27, va0), (28, .int .i64 (a0.ps.length : Int)), (29, .int .i64 s)] ∧ Va ρ w 1 g1 28 ([.int .i64 a0.p, .int .i64 a0.n, .int .i64 a0.m, .int .i64 a0.k, va0])) (fun (s : Int) a w => ∃ ρ, Wd w0 ρ w ∧ Fr 41 a []) ho10 ⟨_, hw, hf.sub ⟨rfl, rfl, rfl, rfl, trivial⟩, o1⟩ ?_ ?_)
      · rintro s11 lr a w ⟨ρ, hw, hf, o1⟩ hF
        replace hf : Fr 41 a [(1, .pointer (some ((⟨g1, 0, none⟩ : Addr).add 0))), (27, va0), (28, .int .i64 (a0.ps.length : Int)), (29, .int .i64 s11)] := hf
        replace o1 : Va ρ w 1 g1 28 ([.int .i64 a0.p, .int .i64 a0.n, .int .i64 a0.m, .int .i64 a0.k, va0]) := o1
        replace hF : impl_IsScheme_l10 a0 s11 = some lr := hF
        unfold impl_IsScheme_l10 at hF
        refine c_seq ?_
        refine c_region ?_
        refine st hf rfl rfl (by decide) (r_lss hf rfl rfl) fun a hf => ?_
        refine c_nt ?_
        refine c_seq ?_
        rcases of_ite hF with ⟨hb12, hF⟩ | ⟨hb12, hF⟩
        · refine c_ift hf rfl hb12 ?_
          refine c_skip ?_
          refine n_then ?_
          refine c_seq ?_
          refine c_block ?_
          refine c_seq ?_
          refine c_region ?_
          obtain ⟨hc13, hF⟩ := of_guard hF
          obtain ⟨ad14, c14, he14, hl14⟩ := Ro.el cProd h0 zProd hc13.1 hc13.2
          refine st hf rfl rfl (by decide) (r_idx Try.underlying26 sz78 hf rfl ⟨_, he14⟩ rfl hc13.1 hc13.2) fun a hf => ?_
          refine st hf rfl rfl (by decide) (r_load_agg ty78 hf rfl (hl14.below hw.below) (cProd.len _)) fun a hf => ?_
          refine st_ex hf rfl rfl (by decide) (r_alloc (cs := cProd.enc zProd) 5 ze78 rfl hw) fun a v w hf hΦ => ?_
          obtain ⟨g5, ρ, rfl, hw, hE, o5⟩ := hΦ
          replace o1 := o1.ext hE
          refine st_skip hf rfl rfl (r_store_w (cs' := cProd.enc (gl zProd a0.ps s11)) hw o5 (by decide) ty78 (cProd.len _) (cProd.len _) (cProd.one _) hf rfl rfl rfl) fun a w hf hΦ => ?_
          obtain ⟨hw, hA, o5⟩ := hΦ
          replace o1 := o1.adv hA (by decide)
          refine c_nt ?_
          refine c_seq ?_
          obtain ⟨x15, hx16, hF⟩ := of_bind hF
          replace hf : Fr 41 a [(1, .pointer (some ((⟨g1, 0, none⟩ : Addr).add 0))), (4, .pointer (some ((⟨g5, 0, none⟩ : Addr).add 0))), (27, va0), (28, .int .i64 (a0.ps.length : Int)), (29, .int .i64 s11)] := hf.sub ⟨rfl, rfl, rfl, rfl, rfl, trivial⟩
          refine c_drawL (h := 5) mixed (by kernel_rfl) (by kernel_rfl) (fun ρ w => Va ρ w 1 g1 28 ([.int .i64 a0.p, .int .i64 a0.n, .int .i64 a0.m, .int .i64 a0.k, va0]) ∧ Va ρ w 5 g5 78 (cProd.enc (gl zProd a0.ps s11))) ?_ [fun ρ w v => .pointer (some ((⟨g1, 0, none⟩ : Addr).add (0 + 0))) = v, fun ρ w v => .int .i64 a0.p = v, fun ρ w v => .agg ([.int .i64 a0.p, .int .i64 a0.n, .int .i64 a0.m, .int .i64 a0.k, va0]).toArray = v, fun ρ w v => .agg (cVec3.enc x15).toArray = v, fun ρ w v => .agg (cProd.enc (gl zProd a0.ps s11)).toArray = v] ?_ hw ⟨o1, o5⟩ hf ?_ ?_
          · intro ρ w ρ' w' hE hG
            obtain ⟨o1, o5⟩ := hG
            exact ⟨o1.ext hE, o5.ext hE⟩
          · exact LastsL.cons (fun _ _ _ _ _ _ h => h) <| LastsL.cons (fun _ _ _ _ _ _ h => h) <| LastsL.cons (fun _ _ _ _ _ _ h => h) <| LastsL.cons (fun _ _ _ _ _ _ h => h) <| LastsL.cons (fun _ _ _ _ _ _ h => h) <| LastsL.nil
          · refine StepsB.cons ?_ <| StepsB.cons ?_ <| StepsB.cons ?_ <| StepsB.cons ?_ <| StepsB.cons ?_ <| StepsB.nil
            · intro ρ w a hw hG hf hd K hK
              obtain ⟨o1, o5⟩ := hG
              exact d_val (R := fun ρ w v => .pointer (some ((⟨g1, 0, none⟩ : Addr).add (0 + 0))) = v) hw (wn rfl) (r_fa fa28_0 hf rfl) rfl rfl hK
            · intro ρ w a hw hG hf hd K hK
              obtain ⟨o1, o5⟩ := hG
              obtain ⟨_, ht, rfl⟩ := hd 0 (by kernel_rfl)
              replace hf := hf.more ht
              exact d_val (R := fun ρ w v => .int .i64 a0.p = v) hw (wn rfl) (r_load_cell ty2 hf rfl (o1.cl.at_ 0 _ rfl)) rfl rfl hK
            · intro ρ w a hw hG hf hd K hK
              obtain ⟨o1, o5⟩ := hG
              exact d_val (R := fun ρ w v => .agg ([.int .i64 a0.p, .int .i64 a0.n, .int .i64 a0.m, .int .i64 a0.k, va0]).toArray = v) hw (wn rfl) (r_load_agg ty28 hf rfl o1.cl rfl) rfl rfl hK
            · intro ρ w a hw hG hf hd K hK
              obtain ⟨o1, o5⟩ := hG
              obtain ⟨_, ht, rfl⟩ := hd 2 (by kernel_rfl)
              replace hf := hf.more ht
              refine d_call (R := fun ρ w v => .agg (cVec3.enc x15).toArray = v) hw (wn rfl) (r_fn en86 hf rfl) (impl_placesOf_ok (a0 := a0) (h0.now hw) hx16) rfl (fun v w' hΦ => ?_) hK
              obtain ⟨hb, hΦ⟩ := hΦ
              obtain rfl := hΦ
              have hE := Ext.new (ρ := ρ) 6 hb
              exact ⟨_, hw.new 6 hb, hE, rfl⟩
            · intro ρ w a hw hG hf hd K hK
              obtain ⟨o1, o5⟩ := hG
              exact d_val (R := fun ρ w v => .agg (cProd.enc (gl zProd a0.ps s11)).toArray = v) hw (wn rfl) (r_load_agg ty78 hf rfl o5.cl (cProd.len _)) rfl rfl hK
          · intro ρ w a hw hG hf hd
            obtain ⟨o1, o5⟩ := hG
            replace hf : Fr 41 a [(1, .pointer (some ((⟨g1, 0, none⟩ : Addr).add 0))), (4, .pointer (some ((⟨g5, 0, none⟩ : Addr).add 0))), (27, va0), (28, .int .i64 (a0.ps.length : Int)), (29, .int .i64 s11)] := hf
            obtain ⟨_, ht, rfl⟩ := hd 1 (by decide)
            replace hf := hf.more ht
            obtain ⟨_, ht, rfl⟩ := hd 3 (by decide)
            replace hf := hf.more ht
            obtain ⟨_, ht, rfl⟩ := hd 4 (by decide)
            replace hf := hf.more ht
            obtain ⟨x17, hx18, hF⟩ := of_bind hF
            refine st_fn 7 hw hf rfl rfl (by decide) (r_fn en131 hf rfl) (impl_isProduct_ok  hx18) fun a v w ρ hf hw hE hN hΦ => ?_
            obtain rfl := hΦ
            replace o1 := o1.ext hE
            replace o5 := o5.ext hE
            refine st hf rfl rfl (by decide) (r_not hf rfl) fun a hf => ?_
            refine c_nt ?_
            rcases of_ite hF with ⟨hb19, hF⟩ | ⟨hb19, hF⟩
            · refine c_ift hf rfl hb19 ?_
              refine c_seq ?_
              refine c_region ?_
              refine st hf rfl rfl (by decide) (r_assign hf rfl) fun a hf => ?_
              refine c_nt ?_
              refine c_retc ?_
              obtain rfl := Option.some.inj hF
              refine r_block ?_
              refine r_then ?_
              refine Rnd.rets fun ho => ?_
              subst ho
              have hF := hG10
              dsimp only at hF
              obtain rfl := Option.some.inj hF
              refine r_block ?_
              refine r_then ?_
              refine c_ret hf (res_tmp Try.results74 hf rfl) ?_
              exact ⟨_, rfl, hw.below, rfl⟩
            · refine c_iff hf rfl hb19 ?_
              refine c_skip ?_
              refine n_block ?_
              refine n_then ?_
              refine c_region ?_
              refine st hf rfl rfl (by decide) (r_add hf rfl rfl) fun a hf => ?_
              refine st hf rfl rfl (by decide) (r_move hf rfl) fun a hf => ?_
              refine c_nil ?_
              obtain rfl := Option.some.inj hF
              exact Rnd.goes ⟨_, hw, hf.sub ⟨rfl, rfl, rfl, rfl, trivial⟩, o1⟩
        · refine c_iff hf rfl hb12 ?_
          refine c_exit ?_
          refine x_then ?_
          obtain rfl := Option.some.inj hF
          exact Rnd.stops ⟨_, hw, hf.sub trivial⟩
      · rintro s11 a w hs ⟨ρ, hw, hf⟩
        subst hs
        replace hf : Fr 41 a [] := hf
        have hF := hG10
        dsimp only at hF
        refine x_block ?_
        refine n_then ?_
        refine c_seq ?_
        refine c_region ?_
        refine st hf rfl rfl (by decide) (r_assign hf rfl) fun a hf => ?_
        refine c_nt ?_
        refine c_retc ?_
        obtain rfl := Option.some.inj hF
        refine c_ret hf (res_tmp Try.results74 hf rfl) ?_
        exact ⟨_, rfl, hw.below, rfl⟩
/-! f119 -/
noncomputable def impl_areSchemes_l1 (a0 : List Sch) (s2 : Int) : Option (LR Int Bool) :=
  if (decide (s2 < (a0.length : Int))) = true then (if 0 ≤ s2 ∧ s2 < (a0.length : Int) then ((impl_IsScheme (gl zSch a0 s2)).bind fun x6 => if (!x6) = true then (some (.ret false)) else (some (.next (w64 (s2 + 1))))) else none) else (some (.stop s2))
noncomputable def impl_areSchemes (a0 : List Sch) : Option Bool :=
  (iter (fun s => impl_areSchemes_l1 a0 s) 0).bind fun o => match o with | .stop s2 => (some (true)) | .ret r => some r | .next _ => none
theorem impl_areSchemes_ok {w0 : World} {a0 : List Sch} {va0 : Value} (h0 : Ro kSch w0 va0 a0) {r : Bool} (hF : impl_areSchemes a0 = some r) :
    Calls Try.prog 119 [va0].toArray w0 fun e w => ∃ v, e = .returned v ∧ Below w0.heap.size w0 w ∧ .bool r = v := by
  refine calls_of (k := 15) Try.func119 rfl rfl (Nat.le_of_ble_eq_true rfl) fun a hf => ?_
  replace hf : Fr 15 a [(0, va0)] := hf
  refine c_start fun w ρ hw => ?_
  unfold impl_areSchemes at hF
  refine c_seq ?_
  refine c_region ?_
  refine st hf rfl rfl (by decide) (r_assign hf rfl) fun a hf => ?_
  refine c_nt ?_
  refine c_seq ?_
  refine c_seq ?_
  refine c_region ?_
  refine st hf rfl rfl (by decide) (r_move hf rfl) fun a hf => ?_
  refine st hf rfl rfl (by decide) (r_len Try.underlying156 (h0.now hw) hf rfl) fun a hf => ?_
  refine st hf rfl rfl (by decide) (r_move hf rfl) fun a hf => ?_
  refine c_nt ?_
  obtain ⟨ol1, ho1, hG1⟩ := of_bind hF
  clear hF
  refine c_block (c_loop (id := 0) (fun s => impl_areSchemes_l1 a0 s) (fun (s : Int) a w => ∃ ρ, Wd w0 ρ w ∧ Fr 15 a [(5, va0), (6, .int .i64 (a0.length : Int)), (7, .int .i64 s)]) (fun (s : Int) a w => ∃ ρ, Wd w0 ρ w ∧ Fr 15 a []) ho1 ⟨_, hw, hf.sub ⟨rfl, rfl, rfl, trivial⟩⟩ ?_ ?_)
  · rintro s2 lr a w ⟨ρ, hw, hf⟩ hF
    replace hf : Fr 15 a [(5, va0), (6, .int .i64 (a0.length : Int)), (7, .int .i64 s2)] := hf
    replace hF : impl_areSchemes_l1 a0 s2 = some lr := hF
    unfold impl_areSchemes_l1 at hF
    refine c_seq ?_
    refine c_region ?_
    refine st hf rfl rfl (by decide) (r_lss hf rfl rfl) fun a hf => ?_
    refine c_nt ?_
    refine c_seq ?_
    rcases of_ite hF with ⟨hb3, hF⟩ | ⟨hb3, hF⟩
    · refine c_ift hf rfl hb3 ?_
      refine c_skip ?_
      refine n_then ?_
      refine c_seq ?_
      refine c_block ?_
      refine c_seq ?_
      refine c_region ?_
      obtain ⟨hc4, hF⟩ := of_guard hF
      obtain ⟨ad5, c5, u5, he5, hl5, ho5⟩ := Ro.el_sch h0 hc4.1 hc4.2
      refine st hf rfl rfl (by decide) (r_idx Try.underlying156 sz28 hf rfl ⟨_, he5⟩ rfl hc4.1 hc4.2) fun a hf => ?_
      refine st hf rfl rfl (by decide) (r_load_agg ty28 hf rfl (hl5.below hw.below) rfl) fun a hf => ?_
      have o2 : Ow (kf cProd) 78 ρ w w0.heap.size 2 (.slice none 0 0) [] := Ow.nil _ _ _ _ _ _
      refine st_ex hf rfl rfl (by decide) (r_alloc (cs := [.int .i64 0, .int .i64 0, .int .i64 0, .int .i64 0, (.slice none 0 0)]) 1 ze28 rfl hw) fun a v w hf hΦ => ?_
      obtain ⟨g1, ρ, rfl, hw, hE, o1⟩ := hΦ
      replace o2 := o2.ext hE
      refine st_skip hf rfl rfl (r_store_w (cs' := [.int .i64 ((gl zSch a0 s2).p), .int .i64 ((gl zSch a0 s2).n), .int .i64 ((gl zSch a0 s2).m), .int .i64 ((gl zSch a0 s2).k), u5]) hw o1 (by decide) ty28 rfl rfl (one_sch (ho5.now hw).one) hf rfl rfl rfl) fun a w hf hΦ => ?_
      obtain ⟨hw, hA, o1⟩ := hΦ
      replace o2 := o2.adv hA (by decide)
      refine c_nt ?_
      refine c_seq ?_
      refine c_region ?_
      refine st hf rfl rfl (by decide) (r_load_agg ty28 hf rfl o1.cl rfl) fun a hf => ?_
      obtain ⟨x6, hx7, hF⟩ := of_bind hF
      refine st_fn 3 hw hf rfl rfl (by decide) (r_fn en74 hf rfl) (impl_IsScheme_ok (a0 := (gl zSch a0 s2)) (ho5.now hw) hx7) fun a v w ρ hf hw hE hN hΦ => ?_
      obtain rfl := hΦ
      replace o2 := o2.ext hE
      replace o1 := o1.ext hE
      refine st hf rfl rfl (by decide) (r_not hf rfl) fun a hf => ?_
      refine c_nt ?_
      rcases of_ite hF with ⟨hb8, hF⟩ | ⟨hb8, hF⟩
      · refine c_ift hf rfl hb8 ?_
        refine c_seq ?_
        refine c_region ?_
        refine st hf rfl rfl (by decide) (r_assign hf rfl) fun a hf => ?_
        refine c_nt ?_
        refine c_retc ?_
        obtain rfl := Option.some.inj hF
        refine r_block ?_
        refine r_then ?_
        refine Rnd.rets fun ho => ?_
        subst ho
        have hF := hG1
        dsimp only at hF
        obtain rfl := Option.some.inj hF
        refine r_block ?_
        refine r_then ?_
        refine c_ret hf (res_tmp Try.results119 hf rfl) ?_
        exact ⟨_, rfl, hw.below, rfl⟩
      · refine c_iff hf rfl hb8 ?_
        refine c_skip ?_
        refine n_block ?_
        refine n_then ?_
        refine c_region ?_
        refine st hf rfl rfl (by decide) (r_add hf rfl rfl) fun a hf => ?_
        refine st hf rfl rfl (by decide) (r_move hf rfl) fun a hf => ?_
        refine c_nil ?_
        obtain rfl := Option.some.inj hF
        exact Rnd.goes ⟨_, hw, hf.sub ⟨rfl, rfl, rfl, trivial⟩⟩
    · refine c_iff hf rfl hb3 ?_
      refine c_exit ?_
      refine x_then ?_
      obtain rfl := Option.some.inj hF
      exact Rnd.stops ⟨_, hw, hf.sub trivial⟩
  · rintro s2 a w hs ⟨ρ, hw, hf⟩
    subst hs
    replace hf : Fr 15 a [] := hf
    have hF := hG1
    dsimp only at hF
    refine x_block ?_
    refine n_then ?_
    refine c_seq ?_
    refine c_region ?_
    refine st hf rfl rfl (by decide) (r_assign hf rfl) fun a hf => ?_
    refine c_nt ?_
    refine c_retc ?_
    obtain rfl := Option.some.inj hF
    refine c_ret hf (res_tmp Try.results119 hf rfl) ?_
    exact ⟨_, rfl, hw.below, rfl⟩
/-! f160 -/
noncomputable def impl_frame_put_l5 (a0 : Frame5) (a1 : Form) (s2 : Int) (s6 : Int) (s7 : Form) : Option (LR (Int × Form) Form) :=
  if (decide (s6 < a0.2.1)) = true then (if 0 ≤ w64 ((w64 (s2 * a0.2.1)) + s6) ∧ w64 ((w64 (s2 * a0.2.1)) + s6) < 9 then (if 0 ≤ w64 ((w64 ((w64 ((w64 (s2 + a0.2.2.2.1)) * a0.2.2.1)) + s6)) + a0.2.2.2.2) ∧ w64 ((w64 ((w64 ((w64 (s2 + a0.2.2.2.1)) * a0.2.2.1)) + s6)) + a0.2.2.2.2) < 9 then (some (.next (w64 (s6 + 1), vs s7 (w64 ((w64 ((w64 ((w64 (s2 + a0.2.2.2.1)) * a0.2.2.1)) + s6)) + a0.2.2.2.2)) (vg 0 a1 (w64 ((w64 (s2 * a0.2.1)) + s6)))))) else none) else none) else (some (.stop (s6, s7)))
noncomputable def impl_frame_put_l1 (a0 : Frame5) (a1 : Form) (s2 : Int) (s3 : Form) : Option (LR (Int × Form) Form) :=
  if (decide (s2 < a0.1)) = true then ((iter (fun s => impl_frame_put_l5 a0 a1 s2 s.1 s.2) (0, s3)).bind fun o => match o with | .stop (s6, s7) => (some (.next (w64 (s2 + 1), s7))) | .ret r => some (.ret r) | .next _ => none) else (some (.stop (s2, s3)))
noncomputable def impl_frame_put (a0 : Frame5) (a1 : Form) : Option Form :=
  (iter (fun s => impl_frame_put_l1 a0 a1 s.1 s.2) (0, zForm)).bind fun o => match o with | .stop (s2, s3) => (some (s3)) | .ret r => some r | .next _ => none
theorem impl_frame_put_ok {w0 : World} {a0 : Frame5} {a1 : Form}   {r : Form} (hF : impl_frame_put a0 a1 = some r) :
    Calls Try.prog 160 [.agg (cFrame5.enc a0).toArray, .agg (cForm.enc a1).toArray].toArray w0 fun e w => ∃ v, e = .returned v ∧ Below w0.heap.size w0 w ∧ .agg (cForm.enc r).toArray = v := by
  refine calls_of (k := 43) Try.func160 rfl rfl (Nat.le_of_ble_eq_true rfl) fun a hf => ?_
  replace hf : Fr 43 a [(0, .agg (cFrame5.enc a0).toArray), (1, .agg (cForm.enc a1).toArray)] := hf
  refine c_start fun w ρ hw => ?_
  unfold impl_frame_put at hF
  refine c_seq ?_
  refine c_region ?_
  refine st_ex hf rfl rfl (by decide) (r_box (cs := cFrame5.enc a0) 1 hw hf rfl rfl) fun a v w hf hΦ => ?_
  obtain ⟨g1, ρ, rfl, hw, hE, o1⟩ := hΦ
  refine st_ex hf rfl rfl (by decide) (r_box (cs := cForm.enc a1) 2 hw hf rfl rfl) fun a v w hf hΦ => ?_
  obtain ⟨g2, ρ, rfl, hw, hE, o2⟩ := hΦ
  replace o1 := o1.ext hE
  refine st_ex hf rfl rfl (by decide) (r_alloc (cs := cForm.enc zForm) 3 ze39 rfl hw) fun a v w hf hΦ => ?_
  obtain ⟨g3, ρ, rfl, hw, hE, o3⟩ := hΦ
  replace o1 := o1.ext hE
  replace o2 := o2.ext hE
  refine c_nt ?_
  refine c_seq ?_
  refine c_region ?_
  refine st hf rfl rfl (by decide) (r_build_arr (vs := []) (res := (cForm.enc zForm).toArray) Try.underlying39 sz5 ze39 hf rfl rfl rfl) fun a hf => ?_
  refine st_ex hf rfl rfl (by decide) (r_alloc (cs := cForm.enc zForm) 4 ze39 rfl hw) fun a v w hf hΦ => ?_
  obtain ⟨g4, ρ, rfl, hw, hE, o4⟩ := hΦ
  replace o1 := o1.ext hE
  replace o2 := o2.ext hE
  replace o3 := o3.ext hE
  refine st_skip hf rfl rfl (r_store_w (cs' := cForm.enc zForm) hw o4 (by decide) ty39 (cForm.len _) (cForm.len _) (cForm.one _) hf rfl rfl rfl) fun a w hf hΦ => ?_
  obtain ⟨hw, hA, o4⟩ := hΦ
  replace o1 := o1.adv hA (by decide)
  replace o2 := o2.adv hA (by decide)
  replace o3 := o3.adv hA (by decide)
  refine c_nt ?_
  refine c_seq ?_
  refine c_seq ?_
  refine c_region ?_
  refine st hf rfl rfl (by decide) (r_fa fa159_0 hf rfl) fun a hf => ?_
  refine st hf rfl rfl (by decide) (r_load_cell ty2 hf rfl (o1.cl.lens lFrame5_0)) fun a hf => ?_
  refine st hf rfl rfl (by decide) (r_move hf rfl) fun a hf => ?_
  refine c_nt ?_
  obtain ⟨ol1, ho1, hG1⟩ := of_bind hF
  clear hF
  refine c_block (c_loop (id := 0) (fun s => impl_frame_put_l1 a0 a1 s.1 s.2) (fun (s : Int × Form) a w => ∃ ρ, Wd w0 ρ w ∧ Fr 43 a [(2, .pointer (some ((⟨g1, 0, none⟩ : Addr).add 0))), (3, .pointer (some ((⟨g2, 0, none⟩ : Addr).add 0))), (4, .pointer (some ((⟨g3, 0, none⟩ : Addr).add 0))), (5, .pointer (some ((⟨g4, 0, none⟩ : Addr).add 0))), (10, .int .i64 a0.1), (11, .int .i64 s.1)] ∧ Va ρ w 1 g1 159 (cFrame5.enc a0) ∧ Va ρ w 2 g2 39 (cForm.enc a1) ∧ Va ρ w 3 g3 39 (cForm.enc zForm) ∧ Va ρ w 4 g4 39 (cForm.enc s.2)) (fun (s : Int × Form) a w => ∃ ρ, Wd w0 ρ w ∧ Fr 43 a [(4, .pointer (some ((⟨g3, 0, none⟩ : Addr).add 0))), (5, .pointer (some ((⟨g4, 0, none⟩ : Addr).add 0)))] ∧ Va ρ w 3 g3 39 (cForm.enc zForm) ∧ Va ρ w 4 g4 39 (cForm.enc s.2)) ho1 ⟨_, hw, hf.sub ⟨rfl, rfl, rfl, rfl, rfl, rfl, trivial⟩, o1, o2, o3, o4⟩ ?_ ?_)
  · rintro ⟨s2, s3⟩ lr a w ⟨ρ, hw, hf, o1, o2, o3, o4⟩ hF
    replace hf : Fr 43 a [(2, .pointer (some ((⟨g1, 0, none⟩ : Addr).add 0))), (3, .pointer (some ((⟨g2, 0, none⟩ : Addr).add 0))), (4, .pointer (some ((⟨g3, 0, none⟩ : Addr).add 0))), (5, .pointer (some ((⟨g4, 0, none⟩ : Addr).add 0))), (10, .int .i64 a0.1), (11, .int .i64 s2)] := hf
    replace o1 : Va ρ w 1 g1 159 (cFrame5.enc a0) := o1
    replace o2 : Va ρ w 2 g2 39 (cForm.enc a1) := o2
    replace o3 : Va ρ w 3 g3 39 (cForm.enc zForm) := o3
    replace o4 : Va ρ w 4 g4 39 (cForm.enc s3) := o4
    replace hF : impl_frame_put_l1 a0 a1 s2 s3 = some lr := hF
    unfold impl_frame_put_l1 at hF
    refine c_seq ?_
    refine c_region ?_
    refine st hf rfl rfl (by decide) (r_lss hf rfl rfl) fun a hf => ?_
    refine c_nt ?_
    refine c_seq ?_
    rcases of_ite hF with ⟨hb4, hF⟩ | ⟨hb4, hF⟩
    · refine c_ift hf rfl hb4 ?_
      refine c_skip ?_
      refine n_then ?_
      refine c_seq ?_
      refine c_block ?_
      refine c_seq ?_
      refine c_region ?_
      refine st hf rfl rfl (by decide) (r_move hf rfl) fun a hf => ?_
      refine st hf rfl rfl (by decide) (r_assign hf rfl) fun a hf => ?_
      refine c_nt ?_
      refine c_seq ?_
      refine c_region ?_
      refine st hf rfl rfl (by decide) (r_fa fa159_1 hf rfl) fun a hf => ?_
      refine st hf rfl rfl (by decide) (r_load_cell ty2 hf rfl (o1.cl.lens lFrame5_1)) fun a hf => ?_
      refine st hf rfl rfl (by decide) (r_move hf rfl) fun a hf => ?_
      refine c_nt ?_
      obtain ⟨ol5, ho5, hG5⟩ := of_bind hF
      clear hF
      refine c_block (c_loop (id := 2) (fun s => impl_frame_put_l5 a0 a1 s2 s.1 s.2) (fun (s : Int × Form) a w => ∃ ρ, Wd w0 ρ w ∧ Fr 43 a [(2, .pointer (some ((⟨g1, 0, none⟩ : Addr).add 0))), (3, .pointer (some ((⟨g2, 0, none⟩ : Addr).add 0))), (4, .pointer (some ((⟨g3, 0, none⟩ : Addr).add 0))), (5, .pointer (some ((⟨g4, 0, none⟩ : Addr).add 0))), (6, .int .i64 s2), (10, .int .i64 a0.1), (11, .int .i64 s2), (15, .int .i64 a0.2.1), (16, .int .i64 s.1)] ∧ Va ρ w 1 g1 159 (cFrame5.enc a0) ∧ Va ρ w 2 g2 39 (cForm.enc a1) ∧ Va ρ w 3 g3 39 (cForm.enc zForm) ∧ Va ρ w 4 g4 39 (cForm.enc s.2)) (fun (s : Int × Form) a w => ∃ ρ, Wd w0 ρ w ∧ Fr 43 a [(2, .pointer (some ((⟨g1, 0, none⟩ : Addr).add 0))), (3, .pointer (some ((⟨g2, 0, none⟩ : Addr).add 0))), (4, .pointer (some ((⟨g3, 0, none⟩ : Addr).add 0))), (5, .pointer (some ((⟨g4, 0, none⟩ : Addr).add 0))), (10, .int .i64 a0.1), (11, .int .i64 s2)] ∧ Va ρ w 1 g1 159 (cFrame5.enc a0) ∧ Va ρ w 2 g2 39 (cForm.enc a1) ∧ Va ρ w 3 g3 39 (cForm.enc zForm) ∧ Va ρ w 4 g4 39 (cForm.enc s.2)) ho5 ⟨_, hw, hf.sub ⟨rfl, rfl, rfl, rfl, rfl, rfl, rfl, rfl, rfl, trivial⟩, o1, o2, o3, o4⟩ ?_ ?_)
      · rintro ⟨s6, s7⟩ lr a w ⟨ρ, hw, hf, o1, o2, o3, o4⟩ hF
        replace hf : Fr 43 a [(2, .pointer (some ((⟨g1, 0, none⟩ : Addr).add 0))), (3, .pointer (some ((⟨g2, 0, none⟩ : Addr).add 0))), (4, .pointer (some ((⟨g3, 0, none⟩ : Addr).add 0))), (5, .pointer (some ((⟨g4, 0, none⟩ : Addr).add 0))), (6, .int .i64 s2), (10, .int .i64 a0.1), (11, .int .i64 s2), (15, .int .i64 a0.2.1), (16, .int .i64 s6)] := hf
        replace o1 : Va ρ w 1 g1 159 (cFrame5.enc a0) := o1
        replace o2 : Va ρ w 2 g2 39 (cForm.enc a1) := o2
        replace o3 : Va ρ w 3 g3 39 (cForm.enc zForm) := o3
        replace o4 : Va ρ w 4 g4 39 (cForm.enc s7) := o4
        replace hF : impl_frame_put_l5 a0 a1 s2 s6 s7 = some lr := hF
        unfold impl_frame_put_l5 at hF
        refine c_seq ?_
        refine c_region ?_
        refine st hf rfl rfl (by decide) (r_lss hf rfl rfl) fun a hf => ?_
        refine c_nt ?_
        refine c_seq ?_
        rcases of_ite hF with ⟨hb8, hF⟩ | ⟨hb8, hF⟩
        · refine c_ift hf rfl hb8 ?_
          refine c_skip ?_
          refine n_then ?_
          refine c_seq ?_
          refine c_block ?_
          refine c_seq ?_
          refine c_region ?_
          refine st hf rfl rfl (by decide) (r_move hf rfl) fun a hf => ?_
          refine st hf rfl rfl (by decide) (r_assign hf rfl) fun a hf => ?_
          refine c_nt ?_
          obtain ⟨hc9, hF⟩ := of_guard hF
          replace hf : Fr 43 a [(2, .pointer (some ((⟨g1, 0, none⟩ : Addr).add 0))), (3, .pointer (some ((⟨g2, 0, none⟩ : Addr).add 0))), (4, .pointer (some ((⟨g3, 0, none⟩ : Addr).add 0))), (5, .pointer (some ((⟨g4, 0, none⟩ : Addr).add 0))), (6, .int .i64 s2), (7, .int .i64 s6), (10, .int .i64 a0.1), (11, .int .i64 s2), (15, .int .i64 a0.2.1), (16, .int .i64 s6)] := hf.sub ⟨rfl, rfl, rfl, rfl, rfl, rfl, rfl, rfl, rfl, rfl, trivial⟩
          refine c_drawL (h := 20) mixed (by kernel_rfl) (by kernel_rfl) (fun ρ w => Va ρ w 1 g1 159 (cFrame5.enc a0) ∧ Va ρ w 2 g2 39 (cForm.enc a1) ∧ Va ρ w 3 g3 39 (cForm.enc zForm) ∧ Va ρ w 4 g4 39 (cForm.enc s7)) ?_ [fun ρ w v => .int .i64 s2 = v, fun ρ w v => .pointer (some ((⟨g1, 0, none⟩ : Addr).add (0 + 3))) = v, fun ρ w v => .int .i64 a0.2.2.2.1 = v, fun ρ w v => .int .i64 (w64 (s2 + a0.2.2.2.1)) = v, fun ρ w v => .pointer (some ((⟨g1, 0, none⟩ : Addr).add (0 + 2))) = v, fun ρ w v => .int .i64 a0.2.2.1 = v, fun ρ w v => .int .i64 (w64 ((w64 (s2 + a0.2.2.2.1)) * a0.2.2.1)) = v, fun ρ w v => .int .i64 s6 = v, fun ρ w v => .int .i64 (w64 ((w64 ((w64 (s2 + a0.2.2.2.1)) * a0.2.2.1)) + s6)) = v, fun ρ w v => .pointer (some ((⟨g1, 0, none⟩ : Addr).add (0 + 4))) = v, fun ρ w v => .int .i64 a0.2.2.2.2 = v, fun ρ w v => .int .i64 (w64 ((w64 ((w64 ((w64 (s2 + a0.2.2.2.1)) * a0.2.2.1)) + s6)) + a0.2.2.2.2)) = v, fun ρ w v => .int .i64 s2 = v, fun ρ w v => .pointer (some ((⟨g1, 0, none⟩ : Addr).add (0 + 1))) = v, fun ρ w v => .int .i64 a0.2.1 = v, fun ρ w v => .int .i64 (w64 (s2 * a0.2.1)) = v, fun ρ w v => .int .i64 s6 = v, fun ρ w v => .int .i64 (w64 ((w64 (s2 * a0.2.1)) + s6)) = v, fun ρ w v => .pointer (some ((⟨g2, 0, none⟩ : Addr).add (0 + (w64 ((w64 (s2 * a0.2.1)) + s6)).toNat * 1))) = v, fun ρ w v => .int .u8 ((vg 0 a1 (w64 ((w64 (s2 * a0.2.1)) + s6))).toNat : Int) = v] ?_ hw ⟨o1, o2, o3, o4⟩ hf ?_ ?_
          · intro ρ w ρ' w' hE hG
            obtain ⟨o1, o2, o3, o4⟩ := hG
            exact ⟨o1.ext hE, o2.ext hE, o3.ext hE, o4.ext hE⟩
          · exact LastsL.cons (fun _ _ _ _ _ _ h => h) <| LastsL.cons (fun _ _ _ _ _ _ h => h) <| LastsL.cons (fun _ _ _ _ _ _ h => h) <| LastsL.cons (fun _ _ _ _ _ _ h => h) <| LastsL.cons (fun _ _ _ _ _ _ h => h) <| LastsL.cons (fun _ _ _ _ _ _ h => h) <| LastsL.cons (fun _ _ _ _ _ _ h => h) <| LastsL.cons (fun _ _ _ _ _ _ h => h) <| LastsL.cons (fun _ _ _ _ _ _ h => h) <| LastsL.cons (fun _ _ _ _ _ _ h => h) <| LastsL.cons (fun _ _ _ _ _ _ h => h) <| LastsL.cons (fun _ _ _ _ _ _ h => h) <| LastsL.cons (fun _ _ _ _ _ _ h => h) <| LastsL.cons (fun _ _ _ _ _ _ h => h) <| LastsL.cons (fun _ _ _ _ _ _ h => h) <| LastsL.cons (fun _ _ _ _ _ _ h => h) <| LastsL.cons (fun _ _ _ _ _ _ h => h) <| LastsL.cons (fun _ _ _ _ _ _ h => h) <| LastsL.cons (fun _ _ _ _ _ _ h => h) <| LastsL.cons (fun _ _ _ _ _ _ h => h) <| LastsL.nil
          · refine StepsB.cons ?_ <| StepsB.cons ?_ <| StepsB.cons ?_ <| StepsB.cons ?_ <| StepsB.cons ?_ <| StepsB.cons ?_ <| StepsB.cons ?_ <| StepsB.cons ?_ <| StepsB.cons ?_ <| StepsB.cons ?_ <| StepsB.cons ?_ <| StepsB.cons ?_ <| StepsB.cons ?_ <| StepsB.cons ?_ <| StepsB.cons ?_ <| StepsB.cons ?_ <| StepsB.cons ?_ <| StepsB.cons ?_ <| StepsB.cons ?_ <| StepsB.cons ?_ <| StepsB.nil
            · intro ρ w a hw hG hf hd K hK
              obtain ⟨o1, o2, o3, o4⟩ := hG
              exact d_val (R := fun ρ w v => .int .i64 s2 = v) hw (wn rfl) (r_move hf rfl) rfl rfl hK
            · intro ρ w a hw hG hf hd K hK
              obtain ⟨o1, o2, o3, o4⟩ := hG
              exact d_val (R := fun ρ w v => .pointer (some ((⟨g1, 0, none⟩ : Addr).add (0 + 3))) = v) hw (wn rfl) (r_fa fa159_3 hf rfl) rfl rfl hK
            · intro ρ w a hw hG hf hd K hK
              obtain ⟨o1, o2, o3, o4⟩ := hG
              obtain ⟨_, ht, rfl⟩ := hd 1 (by kernel_rfl)
              replace hf := hf.more ht
              exact d_val (R := fun ρ w v => .int .i64 a0.2.2.2.1 = v) hw (wn rfl) (r_load_cell ty2 hf rfl (o1.cl.lens lFrame5_3)) rfl rfl hK
            · intro ρ w a hw hG hf hd K hK
              obtain ⟨o1, o2, o3, o4⟩ := hG
              obtain ⟨_, ht, rfl⟩ := hd 0 (by kernel_rfl)
              replace hf := hf.more ht
              obtain ⟨_, ht, rfl⟩ := hd 2 (by kernel_rfl)
              replace hf := hf.more ht
              exact d_val (R := fun ρ w v => .int .i64 (w64 (s2 + a0.2.2.2.1)) = v) hw (wn rfl) (r_add hf rfl rfl) rfl rfl hK
            · intro ρ w a hw hG hf hd K hK
              obtain ⟨o1, o2, o3, o4⟩ := hG
              exact d_val (R := fun ρ w v => .pointer (some ((⟨g1, 0, none⟩ : Addr).add (0 + 2))) = v) hw (wn rfl) (r_fa fa159_2 hf rfl) rfl rfl hK
            · intro ρ w a hw hG hf hd K hK
              obtain ⟨o1, o2, o3, o4⟩ := hG
              obtain ⟨_, ht, rfl⟩ := hd 4 (by kernel_rfl)
              replace hf := hf.more ht
              exact d_val (R := fun ρ w v => .int .i64 a0.2.2.1 = v) hw (wn rfl) (r_load_cell ty2 hf rfl (o1.cl.lens lFrame5_2)) rfl rfl hK
            · intro ρ w a hw hG hf hd K hK
              obtain ⟨o1, o2, o3, o4⟩ := hG
              obtain ⟨_, ht, rfl⟩ := hd 3 (by kernel_rfl)
              replace hf := hf.more ht
              obtain ⟨_, ht, rfl⟩ := hd 5 (by kernel_rfl)
              replace hf := hf.more ht
              exact d_val (R := fun ρ w v => .int .i64 (w64 ((w64 (s2 + a0.2.2.2.1)) * a0.2.2.1)) = v) hw (wn rfl) (r_mul hf rfl rfl) rfl rfl hK
            · intro ρ w a hw hG hf hd K hK
              obtain ⟨o1, o2, o3, o4⟩ := hG
              exact d_val (R := fun ρ w v => .int .i64 s6 = v) hw (wn rfl) (r_move hf rfl) rfl rfl hK
            · intro ρ w a hw hG hf hd K hK
              obtain ⟨o1, o2, o3, o4⟩ := hG
              obtain ⟨_, ht, rfl⟩ := hd 6 (by kernel_rfl)
              replace hf := hf.more ht
              obtain ⟨_, ht, rfl⟩ := hd 7 (by kernel_rfl)
              replace hf := hf.more ht
              exact d_val (R := fun ρ w v => .int .i64 (w64 ((w64 ((w64 (s2 + a0.2.2.2.1)) * a0.2.2.1)) + s6)) = v) hw (wn rfl) (r_add hf rfl rfl) rfl rfl hK
            · intro ρ w a hw hG hf hd K hK
              obtain ⟨o1, o2, o3, o4⟩ := hG
              exact d_val (R := fun ρ w v => .pointer (some ((⟨g1, 0, none⟩ : Addr).add (0 + 4))) = v) hw (wn rfl) (r_fa fa159_4 hf rfl) rfl rfl hK
            · intro ρ w a hw hG hf hd K hK
              obtain ⟨o1, o2, o3, o4⟩ := hG
              obtain ⟨_, ht, rfl⟩ := hd 9 (by kernel_rfl)
              replace hf := hf.more ht
              exact d_val (R := fun ρ w v => .int .i64 a0.2.2.2.2 = v) hw (wn rfl) (r_load_cell ty2 hf rfl (o1.cl.lens lFrame5_4)) rfl rfl hK
            · intro ρ w a hw hG hf hd K hK
              obtain ⟨o1, o2, o3, o4⟩ := hG
              obtain ⟨_, ht, rfl⟩ := hd 8 (by kernel_rfl)
              replace hf := hf.more ht
              obtain ⟨_, ht, rfl⟩ := hd 10 (by kernel_rfl)
              replace hf := hf.more ht
              exact d_val (R := fun ρ w v => .int .i64 (w64 ((w64 ((w64 ((w64 (s2 + a0.2.2.2.1)) * a0.2.2.1)) + s6)) + a0.2.2.2.2)) = v) hw (wn rfl) (r_add hf rfl rfl) rfl rfl hK
            · intro ρ w a hw hG hf hd K hK
              obtain ⟨o1, o2, o3, o4⟩ := hG
              exact d_val (R := fun ρ w v => .int .i64 s2 = v) hw (wn rfl) (r_move hf rfl) rfl rfl hK
            · intro ρ w a hw hG hf hd K hK
              obtain ⟨o1, o2, o3, o4⟩ := hG
              exact d_val (R := fun ρ w v => .pointer (some ((⟨g1, 0, none⟩ : Addr).add (0 + 1))) = v) hw (wn rfl) (r_fa fa159_1 hf rfl) rfl rfl hK
            · intro ρ w a hw hG hf hd K hK
              obtain ⟨o1, o2, o3, o4⟩ := hG
              obtain ⟨_, ht, rfl⟩ := hd 13 (by kernel_rfl)
              replace hf := hf.more ht
              exact d_val (R := fun ρ w v => .int .i64 a0.2.1 = v) hw (wn rfl) (r_load_cell ty2 hf rfl (o1.cl.lens lFrame5_1)) rfl rfl hK
            · intro ρ w a hw hG hf hd K hK
              obtain ⟨o1, o2, o3, o4⟩ := hG
              obtain ⟨_, ht, rfl⟩ := hd 12 (by kernel_rfl)
              replace hf := hf.more ht
              obtain ⟨_, ht, rfl⟩ := hd 14 (by kernel_rfl)
              replace hf := hf.more ht
              exact d_val (R := fun ρ w v => .int .i64 (w64 (s2 * a0.2.1)) = v) hw (wn rfl) (r_mul hf rfl rfl) rfl rfl hK
            · intro ρ w a hw hG hf hd K hK
              obtain ⟨o1, o2, o3, o4⟩ := hG
              exact d_val (R := fun ρ w v => .int .i64 s6 = v) hw (wn rfl) (r_move hf rfl) rfl rfl hK
            · intro ρ w a hw hG hf hd K hK
              obtain ⟨o1, o2, o3, o4⟩ := hG
              obtain ⟨_, ht, rfl⟩ := hd 15 (by kernel_rfl)
              replace hf := hf.more ht
              obtain ⟨_, ht, rfl⟩ := hd 16 (by kernel_rfl)
              replace hf := hf.more ht
              exact d_val (R := fun ρ w v => .int .i64 (w64 ((w64 (s2 * a0.2.1)) + s6)) = v) hw (wn rfl) (r_add hf rfl rfl) rfl rfl hK
            · intro ρ w a hw hG hf hd K hK
              obtain ⟨o1, o2, o3, o4⟩ := hG
              obtain ⟨_, ht, rfl⟩ := hd 17 (by kernel_rfl)
              replace hf := hf.more ht
              exact d_val (R := fun ρ w v => .pointer (some ((⟨g2, 0, none⟩ : Addr).add (0 + (w64 ((w64 (s2 * a0.2.1)) + s6)).toNat * 1))) = v) hw (wn rfl) (r_indexAddr_arr Try.underlying39 sz5 hf rfl rfl hc9.1 hc9.2) rfl rfl hK
            · intro ρ w a hw hG hf hd K hK
              obtain ⟨o1, o2, o3, o4⟩ := hG
              obtain ⟨_, ht, rfl⟩ := hd 18 (by kernel_rfl)
              replace hf := hf.more ht
              exact d_val (R := fun ρ w v => .int .u8 ((vg 0 a1 (w64 ((w64 (s2 * a0.2.1)) + s6))).toNat : Int) = v) hw (wn rfl) (r_load_cell ty5 hf rfl (o2.cl.lens (Lens.vec 0 fU8 (w64 ((w64 (s2 * a0.2.1)) + s6)) hc9.1 hc9.2))) rfl rfl hK
          · intro ρ w a hw hG hf hd
            obtain ⟨o1, o2, o3, o4⟩ := hG
            replace hf : Fr 43 a [(2, .pointer (some ((⟨g1, 0, none⟩ : Addr).add 0))), (3, .pointer (some ((⟨g2, 0, none⟩ : Addr).add 0))), (4, .pointer (some ((⟨g3, 0, none⟩ : Addr).add 0))), (5, .pointer (some ((⟨g4, 0, none⟩ : Addr).add 0))), (6, .int .i64 s2), (7, .int .i64 s6), (10, .int .i64 a0.1), (11, .int .i64 s2), (15, .int .i64 a0.2.1), (16, .int .i64 s6)] := hf
            obtain ⟨_, ht, rfl⟩ := hd 11 (by decide)
            replace hf := hf.more ht
            obtain ⟨_, ht, rfl⟩ := hd 19 (by decide)
            replace hf := hf.more ht
            obtain ⟨hc10, hF⟩ := of_guard hF
            refine st hf rfl rfl (by decide) (r_indexAddr_arr Try.underlying39 sz5 hf rfl rfl hc10.1 hc10.2) fun a hf => ?_
            refine st_skip hf rfl rfl (r_store_l (b := vg 0 a1 (w64 ((w64 (s2 * a0.2.1)) + s6))) hw o4 (by decide) (Lens.vec 0 fU8 (w64 ((w64 ((w64 ((w64 (s2 + a0.2.2.2.1)) * a0.2.2.1)) + s6)) + a0.2.2.2.2)) hc10.1 hc10.2) (by simp only [Nat.zero_add] <;> rfl) ty5 hf rfl rfl rfl) fun a w hf hΦ => ?_
            obtain ⟨hw, hA, o4⟩ := hΦ
            replace o1 := o1.adv hA (by decide)
            replace o2 := o2.adv hA (by decide)
            replace o3 := o3.adv hA (by decide)
            refine c_nil ?_
            refine n_block ?_
            refine n_then ?_
            refine c_region ?_
            refine st hf rfl rfl (by decide) (r_add hf rfl rfl) fun a hf => ?_
            refine st hf rfl rfl (by decide) (r_move hf rfl) fun a hf => ?_
            refine c_nil ?_
            obtain rfl := Option.some.inj hF
            exact Rnd.goes ⟨_, hw, hf.sub ⟨rfl, rfl, rfl, rfl, rfl, rfl, rfl, rfl, rfl, trivial⟩, o1, o2, o3, o4⟩
        · refine c_iff hf rfl hb8 ?_
          refine c_exit ?_
          refine x_then ?_
          obtain rfl := Option.some.inj hF
          exact Rnd.stops ⟨_, hw, hf.sub ⟨rfl, rfl, rfl, rfl, rfl, rfl, trivial⟩, o1, o2, o3, o4⟩
      · rintro ⟨s6, s7⟩ a w hs ⟨ρ, hw, hf, o1, o2, o3, o4⟩
        subst hs
        replace hf : Fr 43 a [(2, .pointer (some ((⟨g1, 0, none⟩ : Addr).add 0))), (3, .pointer (some ((⟨g2, 0, none⟩ : Addr).add 0))), (4, .pointer (some ((⟨g3, 0, none⟩ : Addr).add 0))), (5, .pointer (some ((⟨g4, 0, none⟩ : Addr).add 0))), (10, .int .i64 a0.1), (11, .int .i64 s2)] := hf
        replace o1 : Va ρ w 1 g1 159 (cFrame5.enc a0) := o1
        replace o2 : Va ρ w 2 g2 39 (cForm.enc a1) := o2
        replace o3 : Va ρ w 3 g3 39 (cForm.enc zForm) := o3
        replace o4 : Va ρ w 4 g4 39 (cForm.enc s7) := o4
        have hF := hG5
        dsimp only at hF
        refine x_block ?_
        refine n_block ?_
        refine n_then ?_
        refine c_region ?_
        refine st hf rfl rfl (by decide) (r_add hf rfl rfl) fun a hf => ?_
        refine st hf rfl rfl (by decide) (r_move hf rfl) fun a hf => ?_
        refine c_nil ?_
        obtain rfl := Option.some.inj hF
        exact Rnd.goes ⟨_, hw, hf.sub ⟨rfl, rfl, rfl, rfl, rfl, rfl, trivial⟩, o1, o2, o3, o4⟩
    · refine c_iff hf rfl hb4 ?_
      refine c_exit ?_
      refine x_then ?_
      obtain rfl := Option.some.inj hF
      exact Rnd.stops ⟨_, hw, hf.sub ⟨rfl, rfl, trivial⟩, o3, o4⟩
  · rintro ⟨s2, s3⟩ a w hs ⟨ρ, hw, hf, o3, o4⟩
    subst hs
    replace hf : Fr 43 a [(4, .pointer (some ((⟨g3, 0, none⟩ : Addr).add 0))), (5, .pointer (some ((⟨g4, 0, none⟩ : Addr).add 0)))] := hf
    replace o3 : Va ρ w 3 g3 39 (cForm.enc zForm) := o3
    replace o4 : Va ρ w 4 g4 39 (cForm.enc s3) := o4
    have hF := hG1
    dsimp only at hF
    refine x_block ?_
    refine n_then ?_
    refine c_seq ?_
    refine c_region ?_
    refine st hf rfl rfl (by decide) (r_load_agg ty39 hf rfl o4.cl (cForm.len _)) fun a hf => ?_
    refine st_skip hf rfl rfl (r_store_w (cs' := cForm.enc s3) hw o3 (by decide) ty39 (cForm.len _) (cForm.len _) (cForm.one _) hf rfl rfl rfl) fun a w hf hΦ => ?_
    obtain ⟨hw, hA, o3⟩ := hΦ
    replace o4 := o4.adv hA (by decide)
    refine c_nt ?_
    refine c_retc ?_
    obtain rfl := Option.some.inj hF
    refine c_ret hf (res_cell Try.results160 ty39 hf rfl o3.cl (cForm.len _)) ?_
    exact ⟨_, rfl, hw.below, rfl⟩
/-! f125 -/
noncomputable def impl_framed_l1 (a0 : Sch) (a1 : Sch) (a2 : Int) (a3 : Int) (a4 : Int) (s2 : Int) (s3 : List Prod) : Option (LR (Int × (List Prod)) (List Prod)) :=
  if (decide (s2 < (a0.ps.length : Int))) = true then (if 0 ≤ s2 ∧ s2 < (a0.ps.length : Int) then ((impl_frame_put (a0.n, a0.m, a1.m, a2, a3) ((gl zProd a0.ps s2).1)).bind fun x8 => (impl_frame_put (a0.m, a0.k, a1.k, a3, a4) ((gl zProd a0.ps s2).2.1)).bind fun x10 => (impl_frame_put (a0.n, a0.k, a1.k, a2, a4) ((gl zProd a0.ps s2).2.2)).bind fun x12 => if (s3.length + ([(x8, x10, x12)]).length) * 27 ≤ 140737488355328 then (some (.next (w64 (s2 + 1), (s3 ++ [(x8, x10, x12)])))) else none) else none) else (some (.stop (s2, s3)))
noncomputable def impl_framed (a0 : Sch) (a1 : Sch) (a2 : Int) (a3 : Int) (a4 : Int) : Option (List Prod) :=
  (iter (fun s => impl_framed_l1 a0 a1 a2 a3 a4 s.1 s.2) (0, ([] : List Prod))).bind fun o => match o with | .stop (s2, s3) => (some (s3)) | .ret r => some r | .next _ => none
theorem impl_framed_ok {w0 : World} {a0 : Sch} {a1 : Sch} {a2 : Int} {a3 : Int} {a4 : Int} {va0 : Value} {va1 : Value} (h0 : Ro (kf cProd) w0 va0 a0.ps) (h1 : Ro (kf cProd) w0 va1 a1.ps) {r : List Prod} (hF : impl_framed a0 a1 a2 a3 a4 = some r) :
    Calls Try.prog 125 [.agg ([.int .i64 a0.p, .int .i64 a0.n, .int .i64 a0.m, .int .i64 a0.k, va0]).toArray, .agg ([.int .i64 a1.p, .int .i64 a1.n, .int .i64 a1.m, .int .i64 a1.k, va1]).toArray, .int .i64 a2, .int .i64 a3, .int .i64 a4].toArray w0 fun e w => ∃ v, e = .returned v ∧ Below w0.heap.size w0 w ∧ ∃ u0, u0 = v ∧ Fresh (kf cProd) 78 w0 w u0 r := by
  refine calls_of (k := 70) Try.func125 rfl rfl (Nat.le_of_ble_eq_true rfl) fun a hf => ?_
  replace hf : Fr 70 a [(0, .agg ([.int .i64 a0.p, .int .i64 a0.n, .int .i64 a0.m, .int .i64 a0.k, va0]).toArray), (1, .agg ([.int .i64 a1.p, .int .i64 a1.n, .int .i64 a1.m, .int .i64 a1.k, va1]).toArray), (2, .int .i64 a2), (3, .int .i64 a3), (4, .int .i64 a4)] := hf
  refine c_start fun w ρ hw => ?_
  unfold impl_framed at hF
  refine c_seq ?_
  refine c_region ?_
  refine st_ex hf rfl rfl (by decide) (r_box (cs := [.int .i64 a0.p, .int .i64 a0.n, .int .i64 a0.m, .int .i64 a0.k, va0]) 1 hw hf rfl rfl) fun a v w hf hΦ => ?_
  obtain ⟨g1, ρ, rfl, hw, hE, o1⟩ := hΦ
  refine st_ex hf rfl rfl (by decide) (r_box (cs := [.int .i64 a1.p, .int .i64 a1.n, .int .i64 a1.m, .int .i64 a1.k, va1]) 2 hw hf rfl rfl) fun a v w hf hΦ => ?_
  obtain ⟨g2, ρ, rfl, hw, hE, o2⟩ := hΦ
  replace o1 := o1.ext hE
  have o3 : Ow (kf cProd) 78 ρ w w0.heap.size 3 (.slice none 0 0) [] := Ow.nil _ _ _ _ _ _
  refine st hf rfl rfl (by decide) (r_assign hf rfl) fun a hf => ?_
  refine c_nt ?_
  refine c_seq ?_
  refine c_region ?_
  refine st hf rfl rfl (by decide) (r_fa fa28_1 hf rfl) fun a hf => ?_
  refine st hf rfl rfl (by decide) (r_load_cell ty2 hf rfl (o1.cl.at_ 1 _ rfl)) fun a hf => ?_
  refine st hf rfl rfl (by decide) (r_fa fa28_2 hf rfl) fun a hf => ?_
  refine st hf rfl rfl (by decide) (r_load_cell ty2 hf rfl (o1.cl.at_ 2 _ rfl)) fun a hf => ?_
  refine st hf rfl rfl (by decide) (r_fa fa28_2 hf rfl) fun a hf => ?_
  refine st hf rfl rfl (by decide) (r_load_cell ty2 hf rfl (o2.cl.at_ 2 _ rfl)) fun a hf => ?_
  refine st hf rfl rfl (by decide) (r_move hf rfl) fun a hf => ?_
  refine st hf rfl rfl (by decide) (r_move hf rfl) fun a hf => ?_
  refine st hf rfl rfl (by decide) (r_build_struct (pl := [(0, 1), (1, 1), (2, 1), (3, 1), (4, 1)]) (vs := [(0, .int .i64 a0.n), (1, .int .i64 a0.m), (2, .int .i64 a1.m), (3, .int .i64 a2), (4, .int .i64 a3)]) (res := (cFrame5.enc (a0.n, a0.m, a1.m, a2, a3)).toArray) Try.underlying159 (by kernel_rfl) ze159 hf rfl rfl ((fill_lens (d := cFrame5) (z := zFrame5) lFrame5_0 rfl rfl).trans ((fill_lens (d := cFrame5) (z := (a0.n, zFrame5.2.1, zFrame5.2.2.1, zFrame5.2.2.2.1, zFrame5.2.2.2.2)) lFrame5_1 rfl rfl).trans ((fill_lens (d := cFrame5) (z := (a0.n, a0.m, zFrame5.2.2.1, zFrame5.2.2.2.1, zFrame5.2.2.2.2)) lFrame5_2 rfl rfl).trans ((fill_lens (d := cFrame5) (z := (a0.n, a0.m, a1.m, zFrame5.2.2.2.1, zFrame5.2.2.2.2)) lFrame5_3 rfl rfl).trans ((fill_lens (d := cFrame5) (z := (a0.n, a0.m, a1.m, a2, zFrame5.2.2.2.2)) lFrame5_4 rfl rfl).trans rfl)))))) fun a hf => ?_
  refine st_ex hf rfl rfl (by decide) (r_alloc (cs := cFrame5.enc zFrame5) 4 ze159 rfl hw) fun a v w hf hΦ => ?_
  obtain ⟨g4, ρ, rfl, hw, hE, o4⟩ := hΦ
  replace o1 := o1.ext hE
  replace o2 := o2.ext hE
  replace o3 := o3.ext hE
  refine st_skip hf rfl rfl (r_store_w (cs' := cFrame5.enc (a0.n, a0.m, a1.m, a2, a3)) hw o4 (by decide) ty159 (cFrame5.len _) (cFrame5.len _) (cFrame5.one _) hf rfl rfl rfl) fun a w hf hΦ => ?_
  obtain ⟨hw, hA, o4⟩ := hΦ
  replace o1 := o1.adv hA (by decide)
  replace o2 := o2.adv hA (by decide)
  replace o3 := o3.adv hA (by decide)
  refine c_nt ?_
  refine c_seq ?_
  refine c_region ?_
  refine st hf rfl rfl (by decide) (r_fa fa28_2 hf rfl) fun a hf => ?_
  refine st hf rfl rfl (by decide) (r_load_cell ty2 hf rfl (o1.cl.at_ 2 _ rfl)) fun a hf => ?_
  refine st hf rfl rfl (by decide) (r_fa fa28_3 hf rfl) fun a hf => ?_
  refine st hf rfl rfl (by decide) (r_load_cell ty2 hf rfl (o1.cl.at_ 3 _ rfl)) fun a hf => ?_
  refine st hf rfl rfl (by decide) (r_fa fa28_3 hf rfl) fun a hf => ?_
  refine st hf rfl rfl (by decide) (r_load_cell ty2 hf rfl (o2.cl.at_ 3 _ rfl)) fun a hf => ?_
  refine st hf rfl rfl (by decide) (r_move hf rfl) fun a hf => ?_
  refine st hf rfl rfl (by decide) (r_move hf rfl) fun a hf => ?_
  refine st hf rfl rfl (by decide) (r_build_struct (pl := [(0, 1), (1, 1), (2, 1), (3, 1), (4, 1)]) (vs := [(0, .int .i64 a0.m), (1, .int .i64 a0.k), (2, .int .i64 a1.k), (3, .int .i64 a3), (4, .int .i64 a4)]) (res := (cFrame5.enc (a0.m, a0.k, a1.k, a3, a4)).toArray) Try.underlying159 (by kernel_rfl) ze159 hf rfl rfl ((fill_lens (d := cFrame5) (z := zFrame5) lFrame5_0 rfl rfl).trans ((fill_lens (d := cFrame5) (z := (a0.m, zFrame5.2.1, zFrame5.2.2.1, zFrame5.2.2.2.1, zFrame5.2.2.2.2)) lFrame5_1 rfl rfl).trans ((fill_lens (d := cFrame5) (z := (a0.m, a0.k, zFrame5.2.2.1, zFrame5.2.2.2.1, zFrame5.2.2.2.2)) lFrame5_2 rfl rfl).trans ((fill_lens (d := cFrame5) (z := (a0.m, a0.k, a1.k, zFrame5.2.2.2.1, zFrame5.2.2.2.2)) lFrame5_3 rfl rfl).trans ((fill_lens (d := cFrame5) (z := (a0.m, a0.k, a1.k, a3, zFrame5.2.2.2.2)) lFrame5_4 rfl rfl).trans rfl)))))) fun a hf => ?_
  refine st_ex hf rfl rfl (by decide) (r_alloc (cs := cFrame5.enc zFrame5) 5 ze159 rfl hw) fun a v w hf hΦ => ?_
  obtain ⟨g5, ρ, rfl, hw, hE, o5⟩ := hΦ
  replace o1 := o1.ext hE
  replace o2 := o2.ext hE
  replace o3 := o3.ext hE
  replace o4 := o4.ext hE
  refine st_skip hf rfl rfl (r_store_w (cs' := cFrame5.enc (a0.m, a0.k, a1.k, a3, a4)) hw o5 (by decide) ty159 (cFrame5.len _) (cFrame5.len _) (cFrame5.one _) hf rfl rfl rfl) fun a w hf hΦ => ?_
  obtain ⟨hw, hA, o5⟩ := hΦ
  replace o1 := o1.adv hA (by decide)
  replace o2 := o2.adv hA (by decide)
  replace o3 := o3.adv hA (by decide)
  replace o4 := o4.adv hA (by decide)
  refine c_nt ?_
  refine c_seq ?_
  refine c_region ?_
  refine st hf rfl rfl (by decide) (r_fa fa28_1 hf rfl) fun a hf => ?_
  refine st hf rfl rfl (by decide) (r_load_cell ty2 hf rfl (o1.cl.at_ 1 _ rfl)) fun a hf => ?_
  refine st hf rfl rfl (by decide) (r_fa fa28_3 hf rfl) fun a hf => ?_
  refine st hf rfl rfl (by decide) (r_load_cell ty2 hf rfl (o1.cl.at_ 3 _ rfl)) fun a hf => ?_
  refine st hf rfl rfl (by decide) (r_fa fa28_3 hf rfl) fun a hf => ?_
  refine st hf rfl rfl (by decide) (r_load_cell ty2 hf rfl (o2.cl.at_ 3 _ rfl)) fun a hf => ?_
  refine st hf rfl rfl (by decide) (r_move hf rfl) fun a hf => ?_
  refine st hf rfl rfl (by decide) (r_move hf rfl) fun a hf => ?_
  refine st hf rfl rfl (by decide) (r_build_struct (pl := [(0, 1), (1, 1), (2, 1), (3, 1), (4, 1)]) (vs := [(0, .int .i64 a0.n), (1, .int .i64 a0.k), (2, .int .i64 a1.k), (3, .int .i64 a2), (4, .int .i64 a4)]) (res := (cFrame5.enc (a0.n, a0.k, a1.k, a2, a4)).toArray) Try.underlying159 (by kernel_rfl) ze159 hf rfl rfl ((fill_lens (d := cFrame5) (z := zFrame5) lFrame5_0 rfl rfl).trans ((fill_lens (d := cFrame5) (z := (a0.n, zFrame5.2.1, zFrame5.2.2.1, zFrame5.2.2.2.1, zFrame5.2.2.2.2)) lFrame5_1 rfl rfl).trans ((fill_lens (d := cFrame5) (z := (a0.n, a0.k, zFrame5.2.2.1, zFrame5.2.2.2.1, zFrame5.2.2.2.2)) lFrame5_2 rfl rfl).trans ((fill_lens (d := cFrame5) (z := (a0.n, a0.k, a1.k, zFrame5.2.2.2.1, zFrame5.2.2.2.2)) lFrame5_3 rfl rfl).trans ((fill_lens (d := cFrame5) (z := (a0.n, a0.k, a1.k, a2, zFrame5.2.2.2.2)) lFrame5_4 rfl rfl).trans rfl)))))) fun a hf => ?_
  refine st_ex hf rfl rfl (by decide) (r_alloc (cs := cFrame5.enc zFrame5) 6 ze159 rfl hw) fun a v w hf hΦ => ?_
  obtain ⟨g6, ρ, rfl, hw, hE, o6⟩ := hΦ
  replace o1 := o1.ext hE
  replace o2 := o2.ext hE
  replace o3 := o3.ext hE
  replace o4 := o4.ext hE
  replace o5 := o5.ext hE
  refine st_skip hf rfl rfl (r_store_w (cs' := cFrame5.enc (a0.n, a0.k, a1.k, a2, a4)) hw o6 (by decide) ty159 (cFrame5.len _) (cFrame5.len _) (cFrame5.one _) hf rfl rfl rfl) fun a w hf hΦ => ?_
  obtain ⟨hw, hA, o6⟩ := hΦ
  replace o1 := o1.adv hA (by decide)
  replace o2 := o2.adv hA (by decide)
  replace o3 := o3.adv hA (by decide)
  replace o4 := o4.adv hA (by decide)
  replace o5 := o5.adv hA (by decide)
  refine c_nt ?_
  refine c_seq ?_
  refine c_region ?_
  refine st_ex hf rfl rfl (by decide) (r_lit (d := cProd) (xs := ([] : List Prod)) (vs := []) 7 Try.underlying26 el78 (Nat.le_of_ble_eq_true rfl) (Nat.le_of_ble_eq_true rfl) hw hf rfl rfl rfl) fun a v7 w hf hΦ => ?_
  obtain ⟨ρ, hw, hE, o7⟩ := hΦ
  replace o1 := o1.ext hE
  replace o2 := o2.ext hE
  replace o3 := o3.ext hE
  replace o4 := o4.ext hE
  replace o5 := o5.ext hE
  replace o6 := o6.ext hE
  refine st hf rfl rfl (by decide) (r_assign hf rfl) fun a hf => ?_
  refine c_nt ?_
  refine c_seq ?_
  refine c_seq ?_
  refine c_region ?_
  refine st hf rfl rfl (by decide) (r_fa fa28_4 hf rfl) fun a hf => ?_
  refine st hf rfl rfl (by decide) (r_load_cell ty26 hf rfl (o1.cl.at_ 4 _ rfl)) fun a hf => ?_
  refine st hf rfl rfl (by decide) (r_len Try.underlying26 (h0.now hw) hf rfl) fun a hf => ?_
  refine st hf rfl rfl (by decide) (r_move hf rfl) fun a hf => ?_
  refine c_nt ?_
  obtain ⟨ol1, ho1, hG1⟩ := of_bind hF
  clear hF
  refine c_block (c_loop (id := 0) (fun s => impl_framed_l1 a0 a1 a2 a3 a4 s.1 s.2) (fun (s : Int × (List Prod)) a w => ∃ ρ v4, Wd w0 ρ w ∧ Fr 70 a [(11, .pointer (some ((⟨g4, 0, none⟩ : Addr).add 0))), (12, .pointer (some ((⟨g5, 0, none⟩ : Addr).add 0))), (13, .pointer (some ((⟨g6, 0, none⟩ : Addr).add 0))), (14, v4), (46, va0), (47, .int .i64 (a0.ps.length : Int)), (48, .int .i64 s.1)] ∧ Va ρ w 4 g4 159 (cFrame5.enc (a0.n, a0.m, a1.m, a2, a3)) ∧ Va ρ w 5 g5 159 (cFrame5.enc (a0.m, a0.k, a1.k, a3, a4)) ∧ Va ρ w 6 g6 159 (cFrame5.enc (a0.n, a0.k, a1.k, a2, a4)) ∧ Ow (kf cProd) 78 ρ w w0.heap.size 7 v4 s.2) (fun (s : Int × (List Prod)) a w => ∃ ρ v4, Wd w0 ρ w ∧ Fr 70 a [(14, v4)] ∧ Ow (kf cProd) 78 ρ w w0.heap.size 7 v4 s.2) ho1 ⟨_, _, hw, hf.sub ⟨rfl, rfl, rfl, rfl, rfl, rfl, rfl, trivial⟩, o4, o5, o6, o7⟩ ?_ ?_)
  · rintro ⟨s2, s3⟩ lr a w ⟨ρ, v4, hw, hf, o4, o5, o6, o7⟩ hF
    replace hf : Fr 70 a [(11, .pointer (some ((⟨g4, 0, none⟩ : Addr).add 0))), (12, .pointer (some ((⟨g5, 0, none⟩ : Addr).add 0))), (13, .pointer (some ((⟨g6, 0, none⟩ : Addr).add 0))), (14, v4), (46, va0), (47, .int .i64 (a0.ps.length : Int)), (48, .int .i64 s2)] := hf
    replace o4 : Va ρ w 4 g4 159 (cFrame5.enc (a0.n, a0.m, a1.m, a2, a3)) := o4
    replace o5 : Va ρ w 5 g5 159 (cFrame5.enc (a0.m, a0.k, a1.k, a3, a4)) := o5
    replace o6 : Va ρ w 6 g6 159 (cFrame5.enc (a0.n, a0.k, a1.k, a2, a4)) := o6
    replace o7 : Ow (kf cProd) 78 ρ w w0.heap.size 7 v4 s3 := o7
    replace hF : impl_framed_l1 a0 a1 a2 a3 a4 s2 s3 = some lr := hF
    unfold impl_framed_l1 at hF
    refine c_seq ?_
    refine c_region ?_
    refine st hf rfl rfl (by decide) (r_lss hf rfl rfl) fun a hf => ?_
    refine c_nt ?_
    refine c_seq ?_
    rcases of_ite hF with ⟨hb5, hF⟩ | ⟨hb5, hF⟩
    · refine c_ift hf rfl hb5 ?_
      refine c_skip ?_
      refine n_then ?_
      refine c_seq ?_
      refine c_block ?_
      refine c_seq ?_
      refine c_region ?_
      obtain ⟨hc6, hF⟩ := of_guard hF
      obtain ⟨ad7, c7, he7, hl7⟩ := Ro.el cProd h0 zProd hc6.1 hc6.2
      refine st hf rfl rfl (by decide) (r_idx Try.underlying26 sz78 hf rfl ⟨_, he7⟩ rfl hc6.1 hc6.2) fun a hf => ?_
      refine st hf rfl rfl (by decide) (r_load_agg ty78 hf rfl (hl7.below hw.below) (cProd.len _)) fun a hf => ?_
      refine st_ex hf rfl rfl (by decide) (r_alloc (cs := cProd.enc zProd) 8 ze78 rfl hw) fun a v w hf hΦ => ?_
      obtain ⟨g8, ρ, rfl, hw, hE, o8⟩ := hΦ
      replace o4 := o4.ext hE
      replace o5 := o5.ext hE
      replace o6 := o6.ext hE
      replace o7 := o7.ext hE
      refine st_skip hf rfl rfl (r_store_w (cs' := cProd.enc (gl zProd a0.ps s2)) hw o8 (by decide) ty78 (cProd.len _) (cProd.len _) (cProd.one _) hf rfl rfl rfl) fun a w hf hΦ => ?_
      obtain ⟨hw, hA, o8⟩ := hΦ
      replace o4 := o4.adv hA (by decide)
      replace o5 := o5.adv hA (by decide)
      replace o6 := o6.adv hA (by decide)
      replace o7 := o7.adv hA (by decide)
      refine c_nt ?_
      obtain ⟨x8, hx9, hF⟩ := of_bind hF
      obtain ⟨x10, hx11, hF⟩ := of_bind hF
      obtain ⟨x12, hx13, hF⟩ := of_bind hF
      replace hf : Fr 70 a [(11, .pointer (some ((⟨g4, 0, none⟩ : Addr).add 0))), (12, .pointer (some ((⟨g5, 0, none⟩ : Addr).add 0))), (13, .pointer (some ((⟨g6, 0, none⟩ : Addr).add 0))), (14, v4), (16, .pointer (some ((⟨g8, 0, none⟩ : Addr).add 0))), (46, va0), (47, .int .i64 (a0.ps.length : Int)), (48, .int .i64 s2)] := hf.sub ⟨rfl, rfl, rfl, rfl, rfl, rfl, rfl, rfl, trivial⟩
      refine c_drawL (h := 15) mixed (by kernel_rfl) (by kernel_rfl) (fun ρ w => Va ρ w 4 g4 159 (cFrame5.enc (a0.n, a0.m, a1.m, a2, a3)) ∧ Va ρ w 5 g5 159 (cFrame5.enc (a0.m, a0.k, a1.k, a3, a4)) ∧ Va ρ w 6 g6 159 (cFrame5.enc (a0.n, a0.k, a1.k, a2, a4)) ∧ Ow (kf cProd) 78 ρ w w0.heap.size 7 v4 s3 ∧ Va ρ w 8 g8 78 (cProd.enc (gl zProd a0.ps s2))) ?_ [fun ρ w v => v4 = v, fun ρ w v => .agg (cFrame5.enc (a0.n, a0.m, a1.m, a2, a3)).toArray = v, fun ρ w v => .pointer (some ((⟨g8, 0, none⟩ : Addr).add (0 + 0))) = v, fun ρ w v => .agg (cForm.enc ((gl zProd a0.ps s2).1)).toArray = v, fun ρ w v => .agg (cForm.enc x8).toArray = v, fun ρ w v => .agg (cFrame5.enc (a0.m, a0.k, a1.k, a3, a4)).toArray = v, fun ρ w v => .pointer (some ((⟨g8, 0, none⟩ : Addr).add (0 + 9))) = v, fun ρ w v => .agg (cForm.enc ((gl zProd a0.ps s2).2.1)).toArray = v, fun ρ w v => .agg (cForm.enc x10).toArray = v, fun ρ w v => .agg (cFrame5.enc (a0.n, a0.k, a1.k, a2, a4)).toArray = v, fun ρ w v => .pointer (some ((⟨g8, 0, none⟩ : Addr).add (0 + 18))) = v, fun ρ w v => .agg (cForm.enc ((gl zProd a0.ps s2).2.2)).toArray = v, fun ρ w v => .agg (cForm.enc x12).toArray = v, fun ρ w v => .agg (cProd.enc (x8, x10, x12)).toArray = v, fun ρ w v => ∃ v12, v12 = v ∧ Ow (kf cProd) 78 ρ w w0.heap.size 12 v12 ([(x8, x10, x12)])] ?_ hw ⟨o4, o5, o6, o7, o8⟩ hf ?_ ?_
      · intro ρ w ρ' w' hE hG
        obtain ⟨o4, o5, o6, o7, o8⟩ := hG
        exact ⟨o4.ext hE, o5.ext hE, o6.ext hE, o7.ext hE, o8.ext hE⟩
      · exact LastsL.cons (fun _ _ _ _ _ _ h => h) <| LastsL.cons (fun _ _ _ _ _ _ h => h) <| LastsL.cons (fun _ _ _ _ _ _ h => h) <| LastsL.cons (fun _ _ _ _ _ _ h => h) <| LastsL.cons (fun _ _ _ _ _ _ h => h) <| LastsL.cons (fun _ _ _ _ _ _ h => h) <| LastsL.cons (fun _ _ _ _ _ _ h => h) <| LastsL.cons (fun _ _ _ _ _ _ h => h) <| LastsL.cons (fun _ _ _ _ _ _ h => h) <| LastsL.cons (fun _ _ _ _ _ _ h => h) <| LastsL.cons (fun _ _ _ _ _ _ h => h) <| LastsL.cons (fun _ _ _ _ _ _ h => h) <| LastsL.cons (fun _ _ _ _ _ _ h => h) <| LastsL.cons (fun _ _ _ _ _ _ h => h) <| LastsL.cons (fun _ _ _ _ _ hE h => by obtain ⟨v12, h, o12⟩ := h; exact ⟨_, h, o12.ext hE⟩) <| LastsL.nil
      · refine StepsB.cons ?_ <| StepsB.cons ?_ <| StepsB.cons ?_ <| StepsB.cons ?_ <| StepsB.cons ?_ <| StepsB.cons ?_ <| StepsB.cons ?_ <| StepsB.cons ?_ <| StepsB.cons ?_ <| StepsB.cons ?_ <| StepsB.cons ?_ <| StepsB.cons ?_ <| StepsB.cons ?_ <| StepsB.cons ?_ <| StepsB.cons ?_ <| StepsB.nil
        · intro ρ w a hw hG hf hd K hK
          obtain ⟨o4, o5, o6, o7, o8⟩ := hG
          exact d_val (R := fun ρ w v => v4 = v) hw (wn rfl) (r_move hf rfl) rfl rfl hK
        · intro ρ w a hw hG hf hd K hK
          obtain ⟨o4, o5, o6, o7, o8⟩ := hG
          exact d_val (R := fun ρ w v => .agg (cFrame5.enc (a0.n, a0.m, a1.m, a2, a3)).toArray = v) hw (wn rfl) (r_load_agg ty159 hf rfl o4.cl (cFrame5.len _)) rfl rfl hK
        · intro ρ w a hw hG hf hd K hK
          obtain ⟨o4, o5, o6, o7, o8⟩ := hG
          exact d_val (R := fun ρ w v => .pointer (some ((⟨g8, 0, none⟩ : Addr).add (0 + 0))) = v) hw (wn rfl) (r_fa fa78_0 hf rfl) rfl rfl hK
        · intro ρ w a hw hG hf hd K hK
          obtain ⟨o4, o5, o6, o7, o8⟩ := hG
          obtain ⟨_, ht, rfl⟩ := hd 2 (by kernel_rfl)
          replace hf := hf.more ht
          exact d_val (R := fun ρ w v => .agg (cForm.enc ((gl zProd a0.ps s2).1)).toArray = v) hw (wn rfl) (r_load_agg ty39 hf rfl (o8.cl.lens lProd_0) (cForm.len _)) rfl rfl hK
        · intro ρ w a hw hG hf hd K hK
          obtain ⟨o4, o5, o6, o7, o8⟩ := hG
          obtain ⟨_, ht, rfl⟩ := hd 1 (by kernel_rfl)
          replace hf := hf.more ht
          obtain ⟨_, ht, rfl⟩ := hd 3 (by kernel_rfl)
          replace hf := hf.more ht
          refine d_call (R := fun ρ w v => .agg (cForm.enc x8).toArray = v) hw (wn rfl) (r_fn en160 hf rfl) (impl_frame_put_ok  hx9) rfl (fun v w' hΦ => ?_) hK
          obtain ⟨hb, hΦ⟩ := hΦ
          obtain rfl := hΦ
          have hE := Ext.new (ρ := ρ) 9 hb
          exact ⟨_, hw.new 9 hb, hE, rfl⟩
        · intro ρ w a hw hG hf hd K hK
          obtain ⟨o4, o5, o6, o7, o8⟩ := hG
          exact d_val (R := fun ρ w v => .agg (cFrame5.enc (a0.m, a0.k, a1.k, a3, a4)).toArray = v) hw (wn rfl) (r_load_agg ty159 hf rfl o5.cl (cFrame5.len _)) rfl rfl hK
        · intro ρ w a hw hG hf hd K hK
          obtain ⟨o4, o5, o6, o7, o8⟩ := hG
          exact d_val (R := fun ρ w v => .pointer (some ((⟨g8, 0, none⟩ : Addr).add (0 + 9))) = v) hw (wn rfl) (r_fa fa78_1 hf rfl) rfl rfl hK
        · intro ρ w a hw hG hf hd K hK
          obtain ⟨o4, o5, o6, o7, o8⟩ := hG
          obtain ⟨_, ht, rfl⟩ := hd 6 (by kernel_rfl)
          replace hf := hf.more ht
          exact d_val (R := fun ρ w v => .agg (cForm.enc ((gl zProd a0.ps s2).2.1)).toArray = v) hw (wn rfl) (r_load_agg ty39 hf rfl (o8.cl.lens lProd_1) (cForm.len _)) rfl rfl hK
        · intro ρ w a hw hG hf hd K hK
          obtain ⟨o4, o5, o6, o7, o8⟩ := hG
          obtain ⟨_, ht, rfl⟩ := hd 5 (by kernel_rfl)
          replace hf := hf.more ht
          obtain ⟨_, ht, rfl⟩ := hd 7 (by kernel_rfl)
          replace hf := hf.more ht
          refine d_call (R := fun ρ w v => .agg (cForm.enc x10).toArray = v) hw (wn rfl) (r_fn en160 hf rfl) (impl_frame_put_ok  hx11) rfl (fun v w' hΦ => ?_) hK
          obtain ⟨hb, hΦ⟩ := hΦ
          obtain rfl := hΦ
          have hE := Ext.new (ρ := ρ) 10 hb
          exact ⟨_, hw.new 10 hb, hE, rfl⟩
        · intro ρ w a hw hG hf hd K hK
          obtain ⟨o4, o5, o6, o7, o8⟩ := hG
          exact d_val (R := fun ρ w v => .agg (cFrame5.enc (a0.n, a0.k, a1.k, a2, a4)).toArray = v) hw (wn rfl) (r_load_agg ty159 hf rfl o6.cl (cFrame5.len _)) rfl rfl hK
        · intro ρ w a hw hG hf hd K hK
          obtain ⟨o4, o5, o6, o7, o8⟩ := hG
          exact d_val (R := fun ρ w v => .pointer (some ((⟨g8, 0, none⟩ : Addr).add (0 + 18))) = v) hw (wn rfl) (r_fa fa78_2 hf rfl) rfl rfl hK
        · intro ρ w a hw hG hf hd K hK
          obtain ⟨o4, o5, o6, o7, o8⟩ := hG
          obtain ⟨_, ht, rfl⟩ := hd 10 (by kernel_rfl)
          replace hf := hf.more ht
          exact d_val (R := fun ρ w v => .agg (cForm.enc ((gl zProd a0.ps s2).2.2)).toArray = v) hw (wn rfl) (r_load_agg ty39 hf rfl (o8.cl.lens lProd_2) (cForm.len _)) rfl rfl hK
        · intro ρ w a hw hG hf hd K hK
          obtain ⟨o4, o5, o6, o7, o8⟩ := hG
          obtain ⟨_, ht, rfl⟩ := hd 9 (by kernel_rfl)
          replace hf := hf.more ht
          obtain ⟨_, ht, rfl⟩ := hd 11 (by kernel_rfl)
          replace hf := hf.more ht
          refine d_call (R := fun ρ w v => .agg (cForm.enc x12).toArray = v) hw (wn rfl) (r_fn en160 hf rfl) (impl_frame_put_ok  hx13) rfl (fun v w' hΦ => ?_) hK
          obtain ⟨hb, hΦ⟩ := hΦ
          obtain rfl := hΦ
          have hE := Ext.new (ρ := ρ) 11 hb
          exact ⟨_, hw.new 11 hb, hE, rfl⟩
        · intro ρ w a hw hG hf hd K hK
          obtain ⟨o4, o5, o6, o7, o8⟩ := hG
          obtain ⟨_, ht, rfl⟩ := hd 4 (by kernel_rfl)
          replace hf := hf.more ht
          obtain ⟨_, ht, rfl⟩ := hd 8 (by kernel_rfl)
          replace hf := hf.more ht
          obtain ⟨_, ht, rfl⟩ := hd 12 (by kernel_rfl)
          replace hf := hf.more ht
          exact d_val (R := fun ρ w v => .agg (cProd.enc (x8, x10, x12)).toArray = v) hw (wn rfl) (r_build_struct (pl := [(0, 9), (9, 9), (18, 9)]) (vs := [(0, .agg (cForm.enc x8).toArray), (1, .agg (cForm.enc x10).toArray), (2, .agg (cForm.enc x12).toArray)]) (res := (cProd.enc (x8, x10, x12)).toArray) Try.underlying78 (by kernel_rfl) ze78 hf rfl rfl ((fill_lens (d := cProd) (z := zProd) lProd_0 rfl rfl).trans ((fill_lens (d := cProd) (z := (x8, zProd.2.1, zProd.2.2)) lProd_1 rfl rfl).trans ((fill_lens (d := cProd) (z := (x8, x10, zProd.2.2)) lProd_2 rfl rfl).trans rfl)))) rfl rfl hK
        · intro ρ w a hw hG hf hd K hK
          obtain ⟨o4, o5, o6, o7, o8⟩ := hG
          obtain ⟨_, ht, rfl⟩ := hd 13 (by kernel_rfl)
          replace hf := hf.more ht
          refine d_ex (R := fun ρ w v => ∃ v12, v12 = v ∧ Ow (kf cProd) 78 ρ w w0.heap.size 12 v12 ([(x8, x10, x12)])) hw (wn rfl) (r_lit (d := cProd) (xs := ([(x8, x10, x12)] : List Prod)) (vs := [.agg (cProd.enc (x8, x10, x12)).toArray]) 12 Try.underlying26 el78 (Nat.le_of_ble_eq_true rfl) (Nat.le_of_ble_eq_true rfl) hw hf rfl rfl rfl) rfl (fun v12 w' hΦ => ?_) hK
          obtain ⟨ρ, hw, hE, o12⟩ := hΦ
          exact ⟨_, hw, hE, _, rfl, o12⟩
      · intro ρ w a hw hG hf hd
        obtain ⟨o4, o5, o6, o7, o8⟩ := hG
        replace hf : Fr 70 a [(11, .pointer (some ((⟨g4, 0, none⟩ : Addr).add 0))), (12, .pointer (some ((⟨g5, 0, none⟩ : Addr).add 0))), (13, .pointer (some ((⟨g6, 0, none⟩ : Addr).add 0))), (14, v4), (16, .pointer (some ((⟨g8, 0, none⟩ : Addr).add 0))), (46, va0), (47, .int .i64 (a0.ps.length : Int)), (48, .int .i64 s2)] := hf
        obtain ⟨_, ht, rfl⟩ := hd 0 (by decide)
        replace hf := hf.more ht
        obtain ⟨_, ht, ⟨v12, rfl, o12⟩⟩ := hd 14 (by decide)
        replace hf := hf.more ht
        obtain ⟨hc14, hF⟩ := of_guard hF
        refine st_ex hf rfl rfl (by decide) (r_append Try.underlying26 el78 hw (by decide) o7 o12.ro hc14 hf rfl rfl) fun a va15 w hf hΦ => ?_
        obtain ⟨ρ, hw, hA, o7⟩ := hΦ
        replace o4 := o4.adv hA (by decide)
        replace o5 := o5.adv hA (by decide)
        replace o6 := o6.adv hA (by decide)
        replace o8 := o8.adv hA (by decide)
        replace o12 := o12.adv hA (by decide)
        refine st hf rfl rfl (by decide) (r_assign hf rfl) fun a hf => ?_
        refine c_nil ?_
        refine n_block ?_
        refine n_then ?_
        refine c_region ?_
        refine st hf rfl rfl (by decide) (r_add hf rfl rfl) fun a hf => ?_
        refine st hf rfl rfl (by decide) (r_move hf rfl) fun a hf => ?_
        refine c_nil ?_
        obtain rfl := Option.some.inj hF
        exact Rnd.goes ⟨_, _, hw, hf.sub ⟨rfl, rfl, rfl, rfl, rfl, rfl, rfl, trivial⟩, o4, o5, o6, o7⟩
    · refine c_iff hf rfl hb5 ?_
      refine c_exit ?_
      refine x_then ?_
      obtain rfl := Option.some.inj hF
      exact Rnd.stops ⟨_, _, hw, hf.sub ⟨rfl, trivial⟩, o7⟩
  · rintro ⟨s2, s3⟩ a w hs ⟨ρ, v4, hw, hf, o7⟩
    subst hs
    replace hf : Fr 70 a [(14, v4)] := hf
    replace o7 : Ow (kf cProd) 78 ρ w w0.heap.size 7 v4 s3 := o7
    have hF := hG1
    dsimp only at hF
    refine x_block ?_
    refine n_then ?_
    refine c_seq ?_
    refine c_region ?_
    refine st hf rfl rfl (by decide) (r_move hf rfl) fun a hf => ?_
    refine st hf rfl rfl (by decide) (r_assign hf rfl) fun a hf => ?_
    refine c_nt ?_
    refine c_retc ?_
    obtain rfl := Option.some.inj hF
    refine c_ret hf (res_tmp Try.results125 hf rfl) ?_
    exact ⟨_, rfl, hw.below, ⟨_, rfl, o7.out⟩⟩
/-! f65 -/
noncomputable def impl_joined_l4 (a0 : Sch) (a1 : Sch) (a2 : Int) (s5 : Int) : Option (LR Int (Sch × Int)) :=
  if (decide (s5 < 3)) = true then ((if (decide (s5 ≠ a2)) = true then (if 0 ≤ s5 ∧ s5 < 3 then (some (decide ((vg 0 (#v[a0.n, a0.m, a0.k] : Vec3) s5) ≠ (vg 0 (#v[a1.n, a1.m, a1.k] : Vec3) s5)))) else none) else (some false)).bind fun (s8 : Bool) => if s8 = true then (some (.ret ((⟨0, 0, 0, 0, ([] : List Prod)⟩ : Sch), 2))) else (some (.next (w64 (s5 + 1))))) else (some (.stop s5))
noncomputable def impl_joined (a0 : Sch) (a1 : Sch) (a2 : Int) : Option (Sch × Int) :=
  (impl_areSchemes ([a0, a1])).bind fun x1 => if (!x1) = true then (some (((⟨0, 0, 0, 0, ([] : List Prod)⟩ : Sch), 1))) else ((iter (fun s => impl_joined_l4 a0 a1 a2 s) 0).bind fun o => match o with | .stop s5 => (if (decide (a0.p ≠ a1.p)) = true then (some (((⟨0, 0, 0, 0, ([] : List Prod)⟩ : Sch), 2))) else (if 0 ≤ a2 ∧ a2 < 3 then ((if (decide (3 < (vg 0 (vs (#v[a0.n, a0.m, a0.k] : Vec3) a2 (w64 ((vg 0 (#v[a0.n, a0.m, a0.k] : Vec3) a2) + (vg 0 (#v[a1.n, a1.m, a1.k] : Vec3) a2)))) a2))) = true then (some true) else (some (decide (30 < (w64 ((a0.ps.length : Int) + (a1.ps.length : Int))))))).bind fun (s15 : Bool) => if s15 = true then (some (((⟨0, 0, 0, 0, ([] : List Prod)⟩ : Sch), 3))) else ((impl_framed a0 (⟨a0.p, vg 0 (vs (#v[a0.n, a0.m, a0.k] : Vec3) a2 (w64 ((vg 0 (#v[a0.n, a0.m, a0.k] : Vec3) a2) + (vg 0 (#v[a1.n, a1.m, a1.k] : Vec3) a2)))) 0, vg 0 (vs (#v[a0.n, a0.m, a0.k] : Vec3) a2 (w64 ((vg 0 (#v[a0.n, a0.m, a0.k] : Vec3) a2) + (vg 0 (#v[a1.n, a1.m, a1.k] : Vec3) a2)))) 1, vg 0 (vs (#v[a0.n, a0.m, a0.k] : Vec3) a2 (w64 ((vg 0 (#v[a0.n, a0.m, a0.k] : Vec3) a2) + (vg 0 (#v[a1.n, a1.m, a1.k] : Vec3) a2)))) 2, ([] : List Prod)⟩ : Sch) 0 0 0).bind fun x18 => (impl_framed a1 (⟨a0.p, vg 0 (vs (#v[a0.n, a0.m, a0.k] : Vec3) a2 (w64 ((vg 0 (#v[a0.n, a0.m, a0.k] : Vec3) a2) + (vg 0 (#v[a1.n, a1.m, a1.k] : Vec3) a2)))) 0, vg 0 (vs (#v[a0.n, a0.m, a0.k] : Vec3) a2 (w64 ((vg 0 (#v[a0.n, a0.m, a0.k] : Vec3) a2) + (vg 0 (#v[a1.n, a1.m, a1.k] : Vec3) a2)))) 1, vg 0 (vs (#v[a0.n, a0.m, a0.k] : Vec3) a2 (w64 ((vg 0 (#v[a0.n, a0.m, a0.k] : Vec3) a2) + (vg 0 (#v[a1.n, a1.m, a1.k] : Vec3) a2)))) 2, ([] : List Prod)⟩ : Sch) (vg 0 (vs zVec3 a2 (vg 0 (#v[a0.n, a0.m, a0.k] : Vec3) a2)) 0) (vg 0 (vs zVec3 a2 (vg 0 (#v[a0.n, a0.m, a0.k] : Vec3) a2)) 1) (vg 0 (vs zVec3 a2 (vg 0 (#v[a0.n, a0.m, a0.k] : Vec3) a2)) 2)).bind fun x22 => if (x18.length + x22.length) * 27 ≤ 140737488355328 then (some (((⟨a0.p, vg 0 (vs (#v[a0.n, a0.m, a0.k] : Vec3) a2 (w64 ((vg 0 (#v[a0.n, a0.m, a0.k] : Vec3) a2) + (vg 0 (#v[a1.n, a1.m, a1.k] : Vec3) a2)))) 0, vg 0 (vs (#v[a0.n, a0.m, a0.k] : Vec3) a2 (w64 ((vg 0 (#v[a0.n, a0.m, a0.k] : Vec3) a2) + (vg 0 (#v[a1.n, a1.m, a1.k] : Vec3) a2)))) 1, vg 0 (vs (#v[a0.n, a0.m, a0.k] : Vec3) a2 (w64 ((vg 0 (#v[a0.n, a0.m, a0.k] : Vec3) a2) + (vg 0 (#v[a1.n, a1.m, a1.k] : Vec3) a2)))) 2, (x18 ++ x22)⟩ : Sch), 0))) else none)) else none)) | .ret r => some r | .next _ => none)
theorem impl_joined_ok {w0 : World} {a0 : Sch} {a1 : Sch} {a2 : Int} {va0 : Value} {va1 : Value} (h0 : Ro (kf cProd) w0 va0 a0.ps) (h1 : Ro (kf cProd) w0 va1 a1.ps) {r : Sch × Int} (hF : impl_joined a0 a1 a2 = some r) :
    Calls Try.prog 65 [.agg ([.int .i64 a0.p, .int .i64 a0.n, .int .i64 a0.m, .int .i64 a0.k, va0]).toArray, .agg ([.int .i64 a1.p, .int .i64 a1.n, .int .i64 a1.m, .int .i64 a1.k, va1]).toArray, .int .i64 a2].toArray w0 fun e w => ∃ v, e = .returned v ∧ Below w0.heap.size w0 w ∧ ∃ u0, .tuple #[.agg [.int .i64 r.1.p, .int .i64 r.1.n, .int .i64 r.1.m, .int .i64 r.1.k, u0].toArray, .int .i64 r.2] = v ∧ Fresh (kf cProd) 78 w0 w u0 r.1.ps := by
  refine calls_of (k := 109) Try.func65 rfl rfl (Nat.le_of_ble_eq_true rfl) fun a hf => ?_
  replace hf : Fr 109 a [(0, .agg ([.int .i64 a0.p, .int .i64 a0.n, .int .i64 a0.m, .int .i64 a0.k, va0]).toArray), (1, .agg ([.int .i64 a1.p, .int .i64 a1.n, .int .i64 a1.m, .int .i64 a1.k, va1]).toArray), (2, .int .i64 a2)] := hf
  refine c_start fun w ρ hw => ?_
  unfold impl_joined at hF
  refine c_seq ?_
  refine c_region ?_
  refine st_ex hf rfl rfl (by decide) (r_box (cs := [.int .i64 a0.p, .int .i64 a0.n, .int .i64 a0.m, .int .i64 a0.k, va0]) 1 hw hf rfl rfl) fun a v w hf hΦ => ?_
  obtain ⟨g1, ρ, rfl, hw, hE, o1⟩ := hΦ
  refine st_ex hf rfl rfl (by decide) (r_box (cs := [.int .i64 a1.p, .int .i64 a1.n, .int .i64 a1.m, .int .i64 a1.k, va1]) 2 hw hf rfl rfl) fun a v w hf hΦ => ?_
  obtain ⟨g2, ρ, rfl, hw, hE, o2⟩ := hΦ
  replace o1 := o1.ext hE
  have o4 : Ow (kf cProd) 78 ρ w w0.heap.size 4 (.slice none 0 0) [] := Ow.nil _ _ _ _ _ _
  refine st_ex hf rfl rfl (by decide) (r_alloc (cs := [.int .i64 0, .int .i64 0, .int .i64 0, .int .i64 0, (.slice none 0 0)]) 3 ze28 rfl hw) fun a v w hf hΦ => ?_
  obtain ⟨g3, ρ, rfl, hw, hE, o3⟩ := hΦ
  replace o1 := o1.ext hE
  replace o2 := o2.ext hE
  replace o4 := o4.ext hE
  refine st hf rfl rfl (by decide) (r_assign hf rfl) fun a hf => ?_
  refine c_nt ?_
  refine c_seq ?_
  refine c_seq ?_
  refine c_region ?_
  refine st hf rfl rfl (by decide) (r_load_agg ty28 hf rfl o1.cl rfl) fun a hf => ?_
  refine st hf rfl rfl (by decide) (r_load_agg ty28 hf rfl o2.cl rfl) fun a hf => ?_
  refine st_ex hf rfl rfl (by decide) (r_lit_ro (d := kSch) (m := 5) (xs := ([a0, a1] : List Sch)) (raws := [⟨[.int .i64 a0.p, .int .i64 a0.n, .int .i64 a0.m, .int .i64 a0.k, va0], rfl, one_sch (h0.now hw).one⟩, ⟨[.int .i64 a1.p, .int .i64 a1.n, .int .i64 a1.m, .int .i64 a1.k, va1], rfl, one_sch (h1.now hw).one⟩]) (vs := [.agg ([.int .i64 a0.p, .int .i64 a0.n, .int .i64 a0.m, .int .i64 a0.k, va0]).toArray, .agg ([.int .i64 a1.p, .int .i64 a1.n, .int .i64 a1.m, .int .i64 a1.k, va1]).toArray]) rfl Try.underlying156 el28 (Nat.le_of_ble_eq_true rfl) (Nat.le_of_ble_eq_true rfl) hw hf rfl rfl rfl ⟨⟨_, rfl, (h0.now hw)⟩, ⟨⟨_, rfl, (h1.now hw)⟩, trivial⟩⟩) fun a v5 w hf hΦ => ?_
  obtain ⟨ρ, hw, hE, o5⟩ := hΦ
  replace o1 := o1.ext hE
  replace o2 := o2.ext hE
  replace o4 := o4.ext hE
  replace o3 := o3.ext hE
  obtain ⟨x1, hx2, hF⟩ := of_bind hF
  refine st_fn 6 hw hf rfl rfl (by decide) (r_fn en119 hf rfl) (impl_areSchemes_ok o5 hx2) fun a v w ρ hf hw hE hN hΦ => ?_
  obtain rfl := hΦ
  replace o1 := o1.ext hE
  replace o2 := o2.ext hE
  replace o4 := o4.ext hE
  replace o3 := o3.ext hE
  replace o5 := o5.ext hE
  refine st hf rfl rfl (by decide) (r_not hf rfl) fun a hf => ?_
  refine c_nt ?_
  rcases of_ite hF with ⟨hb3, hF⟩ | ⟨hb3, hF⟩
  · refine c_ift hf rfl hb3 ?_
    refine c_seq ?_
    refine c_region ?_
    have o7 : Ow (kf cProd) 78 ρ w w0.heap.size 7 (.slice none 0 0) [] := Ow.nil _ _ _ _ _ _
    refine st hf rfl rfl (by decide) (r_build_struct (pl := [(0, 1), (1, 1), (2, 1), (3, 1), (4, 1)]) (vs := []) (res := ([.int .i64 0, .int .i64 0, .int .i64 0, .int .i64 0, (.slice none 0 0)]).toArray) Try.underlying28 (by kernel_rfl) ze28 hf rfl rfl rfl) fun a hf => ?_
    refine st_skip hf rfl rfl (r_store_w (cs' := [.int .i64 0, .int .i64 0, .int .i64 0, .int .i64 0, (.slice none 0 0)]) hw o3 (by decide) ty28 rfl rfl (one_sch o7.ro.one) hf rfl rfl rfl) fun a w hf hΦ => ?_
    obtain ⟨hw, hA, o3⟩ := hΦ
    replace o1 := o1.adv hA (by decide)
    replace o2 := o2.adv hA (by decide)
    replace o4 := o4.adv hA (by decide)
    replace o7 := o7.adv hA (by decide)
    refine st hf rfl rfl (by decide) (r_assign hf rfl) fun a hf => ?_
    refine c_nt ?_
    refine c_retc ?_
    obtain rfl := Option.some.inj hF
    refine r_then ?_
    refine c_ret hf (res_ct Try.results65 ty28 hf rfl o3.cl rfl rfl) ?_
    exact ⟨_, rfl, hw.below, ⟨_, rfl, o7.out⟩⟩
  · refine c_iff hf rfl hb3 ?_
    refine c_skip ?_
    refine n_then ?_
    refine c_seq ?_
    replace hf : Fr 109 a [(2, .int .i64 a2), (3, .pointer (some ((⟨g1, 0, none⟩ : Addr).add 0))), (4, .pointer (some ((⟨g2, 0, none⟩ : Addr).add 0))), (6, .pointer (some ((⟨g3, 0, none⟩ : Addr).add 0)))] := hf.sub ⟨rfl, rfl, rfl, rfl, trivial⟩
    refine c_stage 17 [16] mixed (by kernel_rfl) (by kernel_rfl) (fun c ρ w => Va ρ w 1 g1 28 ([.int .i64 a0.p, .int .i64 a0.n, .int .i64 a0.m, .int .i64 a0.k, va0]) ∧ Va ρ w 2 g2 28 ([.int .i64 a1.p, .int .i64 a1.n, .int .i64 a1.m, .int .i64 a1.k, va1]) ∧ Va ρ w 3 g3 28 ([.int .i64 0, .int .i64 0, .int .i64 0, .int .i64 0, (.slice none 0 0)]) ∧ Ow (kf cProd) 78 ρ w w0.heap.size 4 (.slice none 0 0) ([] : List Prod)) ?_ [fun c ρ w v => .pointer (some ((⟨g1, 0, none⟩ : Addr).add (0 + 1))) = v, fun c ρ w v => .int .i64 a0.n = v, fun c ρ w v => .pointer (some ((⟨g1, 0, none⟩ : Addr).add (0 + 2))) = v, fun c ρ w v => .int .i64 a0.m = v, fun c ρ w v => .pointer (some ((⟨g1, 0, none⟩ : Addr).add (0 + 3))) = v, fun c ρ w v => .int .i64 a0.k = v, fun c ρ w v => .agg (cVec3.enc (#v[a0.n, a0.m, a0.k] : Vec3)).toArray = v, fun c ρ w v => .pointer (some ((⟨g2, 0, none⟩ : Addr).add (0 + 1))) = v, fun c ρ w v => .int .i64 a1.n = v, fun c ρ w v => .pointer (some ((⟨g2, 0, none⟩ : Addr).add (0 + 2))) = v, fun c ρ w v => .int .i64 a1.m = v, fun c ρ w v => .pointer (some ((⟨g2, 0, none⟩ : Addr).add (0 + 3))) = v, fun c ρ w v => .int .i64 a1.k = v, fun c ρ w v => .agg (cVec3.enc (#v[a1.n, a1.m, a1.k] : Vec3)).toArray = v, fun c ρ w v => ∃ g8, .pointer (some ((⟨g8, 0, none⟩ : Addr).add 0)) = v ∧ (c ≤ 0 → Va ρ w 8 g8 89 (cVec3.enc zVec3)) ∧ (0 < c → Va ρ w 8 g8 89 (cVec3.enc (#v[a0.n, a0.m, a0.k] : Vec3))), fun c ρ w v => ∃ g9, .pointer (some ((⟨g9, 0, none⟩ : Addr).add 0)) = v ∧ Va ρ w 9 g9 89 (cVec3.enc zVec3), fun _ _ _ _ => True] ?_ hw ⟨o1, o2, o3, o4⟩ hf ?_ ?_
    · intro c ρ w ρ' w' hE hG
      obtain ⟨o1, o2, o3, o4⟩ := hG
      exact ⟨o1.ext hE, o2.ext hE, o3.ext hE, o4.ext hE⟩
    · exact LastsS.cons (fun _ _ _ _ _ _ _ h => h) <| LastsS.cons (fun _ _ _ _ _ _ _ h => h) <| LastsS.cons (fun _ _ _ _ _ _ _ h => h) <| LastsS.cons (fun _ _ _ _ _ _ _ h => h) <| LastsS.cons (fun _ _ _ _ _ _ _ h => h) <| LastsS.cons (fun _ _ _ _ _ _ _ h => h) <| LastsS.cons (fun _ _ _ _ _ _ _ h => h) <| LastsS.cons (fun _ _ _ _ _ _ _ h => h) <| LastsS.cons (fun _ _ _ _ _ _ _ h => h) <| LastsS.cons (fun _ _ _ _ _ _ _ h => h) <| LastsS.cons (fun _ _ _ _ _ _ _ h => h) <| LastsS.cons (fun _ _ _ _ _ _ _ h => h) <| LastsS.cons (fun _ _ _ _ _ _ _ h => h) <| LastsS.cons (fun _ _ _ _ _ _ _ h => h) <| LastsS.cons (fun c _ _ _ _ _ hE h => by obtain ⟨g8, h, hx, hy⟩ := h; exact ⟨_, h, fun h => (hx h).ext hE, (fun h => by obtain o8 := hy h; exact o8.ext hE)⟩) <| LastsS.cons (fun c _ _ _ _ _ hE h => by obtain ⟨g9, h, o9⟩ := h; exact ⟨_, h, o9.ext hE⟩) <| LastsS.cons (fun _ _ _ _ _ _ _ h => h) <| LastsS.nil
    · refine StepsS.float rfl ?_ <| StepsS.float rfl ?_ <| StepsS.float rfl ?_ <| StepsS.float rfl ?_ <| StepsS.float rfl ?_ <| StepsS.float rfl ?_ <| StepsS.float rfl ?_ <| StepsS.float rfl ?_ <| StepsS.float rfl ?_ <| StepsS.float rfl ?_ <| StepsS.float rfl ?_ <| StepsS.float rfl ?_ <| StepsS.float rfl ?_ <| StepsS.float rfl ?_ <| StepsS.float rfl ?_ <| StepsS.float rfl ?_ <| StepsS.main 0 rfl rfl ?_ <| StepsS.nil
      · intro c ρ w a hs hw hG hf hd K hK
        obtain ⟨o1, o2, o3, o4⟩ := hG
        exact d_val (R := fun ρ w v => .pointer (some ((⟨g1, 0, none⟩ : Addr).add (0 + 1))) = v) hw (wn rfl) (r_fa fa28_1 hf rfl) rfl rfl hK
      · intro c ρ w a hs hw hG hf hd K hK
        obtain ⟨o1, o2, o3, o4⟩ := hG
        obtain ⟨_, ht0, rfl⟩ := hd 0 (by kernel_rfl) (by kernel_rfl)
        replace hf := hf.more ht0
        exact d_val (R := fun ρ w v => .int .i64 a0.n = v) hw (wn rfl) (r_load_cell ty2 hf rfl (o1.cl.at_ 1 _ rfl)) rfl rfl hK
      · intro c ρ w a hs hw hG hf hd K hK
        obtain ⟨o1, o2, o3, o4⟩ := hG
        exact d_val (R := fun ρ w v => .pointer (some ((⟨g1, 0, none⟩ : Addr).add (0 + 2))) = v) hw (wn rfl) (r_fa fa28_2 hf rfl) rfl rfl hK
      · intro c ρ w a hs hw hG hf hd K hK
        obtain ⟨o1, o2, o3, o4⟩ := hG
        obtain ⟨_, ht2, rfl⟩ := hd 2 (by kernel_rfl) (by kernel_rfl)
        replace hf := hf.more ht2
        exact d_val (R := fun ρ w v => .int .i64 a0.m = v) hw (wn rfl) (r_load_cell ty2 hf rfl (o1.cl.at_ 2 _ rfl)) rfl rfl hK
      · intro c ρ w a hs hw hG hf hd K hK
        obtain ⟨o1, o2, o3, o4⟩ := hG
        exact d_val (R := fun ρ w v => .pointer (some ((⟨g1, 0, none⟩ : Addr).add (0 + 3))) = v) hw (wn rfl) (r_fa fa28_3 hf rfl) rfl rfl hK
      · intro c ρ w a hs hw hG hf hd K hK
        obtain ⟨o1, o2, o3, o4⟩ := hG
        obtain ⟨_, ht4, rfl⟩ := hd 4 (by kernel_rfl) (by kernel_rfl)
        replace hf := hf.more ht4
        exact d_val (R := fun ρ w v => .int .i64 a0.k = v) hw (wn rfl) (r_load_cell ty2 hf rfl (o1.cl.at_ 3 _ rfl)) rfl rfl hK
      · intro c ρ w a hs hw hG hf hd K hK
        obtain ⟨o1, o2, o3, o4⟩ := hG
        obtain ⟨_, ht1, rfl⟩ := hd 1 (by kernel_rfl) (by kernel_rfl)
        replace hf := hf.more ht1
        obtain ⟨_, ht3, rfl⟩ := hd 3 (by kernel_rfl) (by kernel_rfl)
        replace hf := hf.more ht3
        obtain ⟨_, ht5, rfl⟩ := hd 5 (by kernel_rfl) (by kernel_rfl)
        replace hf := hf.more ht5
        exact d_val (R := fun ρ w v => .agg (cVec3.enc (#v[a0.n, a0.m, a0.k] : Vec3)).toArray = v) hw (wn rfl) (r_build_arr (vs := [(0, .int .i64 a0.n), (1, .int .i64 a0.m), (2, .int .i64 a0.k)]) (res := (cVec3.enc (#v[a0.n, a0.m, a0.k] : Vec3)).toArray) Try.underlying89 sz2 ze89 hf rfl rfl ((fill_lens (d := cVec3) (z := zVec3) (Lens.vec 0 fI64 (0 : Int) (by decide) (by decide)) rfl rfl).trans ((fill_lens (d := cVec3) (z := vs zVec3 0 a0.n) (Lens.vec 0 fI64 (1 : Int) (by decide) (by decide)) rfl rfl).trans ((fill_lens (d := cVec3) (z := vs (vs zVec3 0 a0.n) 1 a0.m) (Lens.vec 0 fI64 (2 : Int) (by decide) (by decide)) rfl rfl).trans rfl)))) rfl rfl hK
      · intro c ρ w a hs hw hG hf hd K hK
        obtain ⟨o1, o2, o3, o4⟩ := hG
        exact d_val (R := fun ρ w v => .pointer (some ((⟨g2, 0, none⟩ : Addr).add (0 + 1))) = v) hw (wn rfl) (r_fa fa28_1 hf rfl) rfl rfl hK
      · intro c ρ w a hs hw hG hf hd K hK
        obtain ⟨o1, o2, o3, o4⟩ := hG
        obtain ⟨_, ht7, rfl⟩ := hd 7 (by kernel_rfl) (by kernel_rfl)
        replace hf := hf.more ht7
        exact d_val (R := fun ρ w v => .int .i64 a1.n = v) hw (wn rfl) (r_load_cell ty2 hf rfl (o2.cl.at_ 1 _ rfl)) rfl rfl hK
      · intro c ρ w a hs hw hG hf hd K hK
        obtain ⟨o1, o2, o3, o4⟩ := hG
        exact d_val (R := fun ρ w v => .pointer (some ((⟨g2, 0, none⟩ : Addr).add (0 + 2))) = v) hw (wn rfl) (r_fa fa28_2 hf rfl) rfl rfl hK
      · intro c ρ w a hs hw hG hf hd K hK
        obtain ⟨o1, o2, o3, o4⟩ := hG
        obtain ⟨_, ht9, rfl⟩ := hd 9 (by kernel_rfl) (by kernel_rfl)
        replace hf := hf.more ht9
        exact d_val (R := fun ρ w v => .int .i64 a1.m = v) hw (wn rfl) (r_load_cell ty2 hf rfl (o2.cl.at_ 2 _ rfl)) rfl rfl hK
      · intro c ρ w a hs hw hG hf hd K hK
        obtain ⟨o1, o2, o3, o4⟩ := hG
        exact d_val (R := fun ρ w v => .pointer (some ((⟨g2, 0, none⟩ : Addr).add (0 + 3))) = v) hw (wn rfl) (r_fa fa28_3 hf rfl) rfl rfl hK
      · intro c ρ w a hs hw hG hf hd K hK
        obtain ⟨o1, o2, o3, o4⟩ := hG
        obtain ⟨_, ht11, rfl⟩ := hd 11 (by kernel_rfl) (by kernel_rfl)
        replace hf := hf.more ht11
        exact d_val (R := fun ρ w v => .int .i64 a1.k = v) hw (wn rfl) (r_load_cell ty2 hf rfl (o2.cl.at_ 3 _ rfl)) rfl rfl hK
      · intro c ρ w a hs hw hG hf hd K hK
        obtain ⟨o1, o2, o3, o4⟩ := hG
        obtain ⟨_, ht8, rfl⟩ := hd 8 (by kernel_rfl) (by kernel_rfl)
        replace hf := hf.more ht8
        obtain ⟨_, ht10, rfl⟩ := hd 10 (by kernel_rfl) (by kernel_rfl)
        replace hf := hf.more ht10
        obtain ⟨_, ht12, rfl⟩ := hd 12 (by kernel_rfl) (by kernel_rfl)
        replace hf := hf.more ht12
        exact d_val (R := fun ρ w v => .agg (cVec3.enc (#v[a1.n, a1.m, a1.k] : Vec3)).toArray = v) hw (wn rfl) (r_build_arr (vs := [(0, .int .i64 a1.n), (1, .int .i64 a1.m), (2, .int .i64 a1.k)]) (res := (cVec3.enc (#v[a1.n, a1.m, a1.k] : Vec3)).toArray) Try.underlying89 sz2 ze89 hf rfl rfl ((fill_lens (d := cVec3) (z := zVec3) (Lens.vec 0 fI64 (0 : Int) (by decide) (by decide)) rfl rfl).trans ((fill_lens (d := cVec3) (z := vs zVec3 0 a1.n) (Lens.vec 0 fI64 (1 : Int) (by decide) (by decide)) rfl rfl).trans ((fill_lens (d := cVec3) (z := vs (vs zVec3 0 a1.n) 1 a1.m) (Lens.vec 0 fI64 (2 : Int) (by decide) (by decide)) rfl rfl).trans rfl)))) rfl rfl hK
      · intro c ρ w a hs hw hG hf hd K hK
        obtain ⟨o1, o2, o3, o4⟩ := hG
        refine d_ex (R := fun ρ w v => ∃ g8, .pointer (some ((⟨g8, 0, none⟩ : Addr).add 0)) = v ∧ (c ≤ 0 → Va ρ w 8 g8 89 (cVec3.enc zVec3)) ∧ (0 < c → Va ρ w 8 g8 89 (cVec3.enc (#v[a0.n, a0.m, a0.k] : Vec3)))) hw (wn rfl) (r_alloc (cs := cVec3.enc zVec3) 8 ze89 rfl hw) rfl (fun v w' hΦ => ?_) hK
        obtain ⟨g8, ρ, rfl, hw, hE, o8⟩ := hΦ
        exact ⟨_, hw, hE, _, rfl, fun _ => o8, fun hc => absurd (hs 0 (by decide) (by kernel_rfl)) (Nat.not_le_of_lt hc)⟩
      · intro c ρ w a hs hw hG hf hd K hK
        obtain ⟨o1, o2, o3, o4⟩ := hG
        refine d_ex (R := fun ρ w v => ∃ g9, .pointer (some ((⟨g9, 0, none⟩ : Addr).add 0)) = v ∧ Va ρ w 9 g9 89 (cVec3.enc zVec3)) hw (wn rfl) (r_alloc (cs := cVec3.enc zVec3) 9 ze89 rfl hw) rfl (fun v w' hΦ => ?_) hK
        obtain ⟨g9, ρ, rfl, hw, hE, o9⟩ := hΦ
        exact ⟨_, hw, hE, _, rfl, o9⟩
      · intro ρ w a S hw hG hf hS hdep hSi K hK
        obtain ⟨o1, o2, o3, o4⟩ := hG
        have hfL := hf
        obtain ⟨_, ht6, rfl⟩ := hS 6 (by decide) (hdep 6 (by kernel_rfl)) (by kernel_rfl)
        replace hf := hf.more ht6
        obtain ⟨_, ht14, g8, rfl, hx14, hy14⟩ := hS 14 (by decide) (hdep 14 (by kernel_rfl)) (by kernel_rfl)
        have o8 := hx14 (by decide)
        replace hf := hf.more ht14
        refine m_skip (Γ := fun c ρ w => Va ρ w 1 g1 28 ([.int .i64 a0.p, .int .i64 a0.n, .int .i64 a0.m, .int .i64 a0.k, va0]) ∧ Va ρ w 2 g2 28 ([.int .i64 a1.p, .int .i64 a1.n, .int .i64 a1.m, .int .i64 a1.k, va1]) ∧ Va ρ w 3 g3 28 ([.int .i64 0, .int .i64 0, .int .i64 0, .int .i64 0, (.slice none 0 0)]) ∧ Ow (kf cProd) 78 ρ w w0.heap.size 4 (.slice none 0 0) ([] : List Prod)) (Rl := [fun c ρ w v => .pointer (some ((⟨g1, 0, none⟩ : Addr).add (0 + 1))) = v, fun c ρ w v => .int .i64 a0.n = v, fun c ρ w v => .pointer (some ((⟨g1, 0, none⟩ : Addr).add (0 + 2))) = v, fun c ρ w v => .int .i64 a0.m = v, fun c ρ w v => .pointer (some ((⟨g1, 0, none⟩ : Addr).add (0 + 3))) = v, fun c ρ w v => .int .i64 a0.k = v, fun c ρ w v => .agg (cVec3.enc (#v[a0.n, a0.m, a0.k] : Vec3)).toArray = v, fun c ρ w v => .pointer (some ((⟨g2, 0, none⟩ : Addr).add (0 + 1))) = v, fun c ρ w v => .int .i64 a1.n = v, fun c ρ w v => .pointer (some ((⟨g2, 0, none⟩ : Addr).add (0 + 2))) = v, fun c ρ w v => .int .i64 a1.m = v, fun c ρ w v => .pointer (some ((⟨g2, 0, none⟩ : Addr).add (0 + 3))) = v, fun c ρ w v => .int .i64 a1.k = v, fun c ρ w v => .agg (cVec3.enc (#v[a1.n, a1.m, a1.k] : Vec3)).toArray = v, fun c ρ w v => ∃ g8, .pointer (some ((⟨g8, 0, none⟩ : Addr).add 0)) = v ∧ (c ≤ 0 → Va ρ w 8 g8 89 (cVec3.enc zVec3)) ∧ (0 < c → Va ρ w 8 g8 89 (cVec3.enc (#v[a0.n, a0.m, a0.k] : Vec3))), fun c ρ w v => ∃ g9, .pointer (some ((⟨g9, 0, none⟩ : Addr).add 0)) = v ∧ Va ρ w 9 g9 89 (cVec3.enc zVec3), fun _ _ _ _ => True]) hfL hS (by kernel_rfl) rfl (wn rfl) (r_store_w (cs' := cVec3.enc (#v[a0.n, a0.m, a0.k] : Vec3)) hw o8 (by decide) ty89 (cVec3.len _) (cVec3.len _) (cVec3.one _) hf rfl rfl rfl) (fun w' hΦ => ?_) hK
        obtain ⟨hw, hA, o8⟩ := hΦ
        replace o1 := o1.adv hA (by decide)
        replace o2 := o2.adv hA (by decide)
        replace o3 := o3.adv hA (by decide)
        replace o4 := o4.adv hA (by decide)
        refine ⟨_, hw, ⟨o1, o2, o3, o4⟩, ?_⟩
        · exact PassL.cons (fun h => h) <| PassL.cons (fun h => h) <| PassL.cons (fun h => h) <| PassL.cons (fun h => h) <| PassL.cons (fun h => h) <| PassL.cons (fun h => h) <| PassL.cons (fun h => h) <| PassL.cons (fun h => h) <| PassL.cons (fun h => h) <| PassL.cons (fun h => h) <| PassL.cons (fun h => h) <| PassL.cons (fun h => h) <| PassL.cons (fun h => h) <| PassL.cons (fun h => h) <| PassL.cons (fun _ => ⟨_, ht14, _, rfl, fun h => absurd h (by decide), fun _ => o8⟩) <| PassL.cons (fun h => by obtain ⟨_, ht, g9, h, o9⟩ := h; exact ⟨_, ht, _, h, o9.adv hA (by decide)⟩) <| PassL.here <| PassL.nil
    · intro ρ w a hw hG hf hd
      obtain ⟨o1, o2, o3, o4⟩ := hG
      replace hf : Fr 109 a [(2, .int .i64 a2), (3, .pointer (some ((⟨g1, 0, none⟩ : Addr).add 0))), (4, .pointer (some ((⟨g2, 0, none⟩ : Addr).add 0))), (6, .pointer (some ((⟨g3, 0, none⟩ : Addr).add 0)))] := hf
      obtain ⟨_, ht, rfl⟩ := hd 13 (by decide) (by kernel_rfl)
      replace hf := hf.more ht
      obtain ⟨_, ht, g8, rfl, hx, hy⟩ := hd 14 (by decide) (by kernel_rfl)
      obtain o8 := hy (by decide)
      replace hf := hf.more ht
      obtain ⟨_, ht, ⟨g9, rfl, o9⟩⟩ := hd 15 (by decide) (by kernel_rfl)
      replace hf := hf.more ht
      refine st_skip hf rfl rfl (r_store_w (cs' := cVec3.enc (#v[a1.n, a1.m, a1.k] : Vec3)) hw o9 (by decide) ty89 (cVec3.len _) (cVec3.len _) (cVec3.one _) hf rfl rfl rfl) fun a w hf hΦ => ?_
      obtain ⟨hw, hA, o9⟩ := hΦ
      replace o1 := o1.adv hA (by decide)
      replace o2 := o2.adv hA (by decide)
      replace o3 := o3.adv hA (by decide)
      replace o4 := o4.adv hA (by decide)
      replace o8 := o8.adv hA (by decide)
      refine c_nt ?_
      refine c_seq ?_
      refine c_seq ?_
      refine c_region ?_
      refine st hf rfl rfl (by decide) (r_move hf rfl) fun a hf => ?_
      refine c_nt ?_
      obtain ⟨ol4, ho4, hG4⟩ := of_bind hF
      clear hF
      refine c_block (c_loop (id := 0) (fun s => impl_joined_l4 a0 a1 a2 s) (fun (s : Int) a w => ∃ ρ, Wd w0 ρ w ∧ Fr 109 a [(2, .int .i64 a2), (3, .pointer (some ((⟨g1, 0, none⟩ : Addr).add 0))), (4, .pointer (some ((⟨g2, 0, none⟩ : Addr).add 0))), (6, .pointer (some ((⟨g3, 0, none⟩ : Addr).add 0))), (8, .pointer (some ((⟨g8, 0, none⟩ : Addr).add 0))), (9, .pointer (some ((⟨g9, 0, none⟩ : Addr).add 0))), (33, .int .i64 s)] ∧ Va ρ w 1 g1 28 ([.int .i64 a0.p, .int .i64 a0.n, .int .i64 a0.m, .int .i64 a0.k, va0]) ∧ Va ρ w 2 g2 28 ([.int .i64 a1.p, .int .i64 a1.n, .int .i64 a1.m, .int .i64 a1.k, va1]) ∧ Va ρ w 3 g3 28 ([.int .i64 0, .int .i64 0, .int .i64 0, .int .i64 0, (.slice none 0 0)]) ∧ Ow (kf cProd) 78 ρ w w0.heap.size 4 (.slice none 0 0) ([] : List Prod) ∧ Va ρ w 8 g8 89 (cVec3.enc (#v[a0.n, a0.m, a0.k] : Vec3)) ∧ Va ρ w 9 g9 89 (cVec3.enc (#v[a1.n, a1.m, a1.k] : Vec3))) (fun (s : Int) a w => ∃ ρ, Wd w0 ρ w ∧ Fr 109 a [(2, .int .i64 a2), (3, .pointer (some ((⟨g1, 0, none⟩ : Addr).add 0))), (4, .pointer (some ((⟨g2, 0, none⟩ : Addr).add 0))), (6, .pointer (some ((⟨g3, 0, none⟩ : Addr).add 0))), (8, .pointer (some ((⟨g8, 0, none⟩ : Addr).add 0))), (9, .pointer (some ((⟨g9, 0, none⟩ : Addr).add 0)))] ∧ Va ρ w 1 g1 28 ([.int .i64 a0.p, .int .i64 a0.n, .int .i64 a0.m, .int .i64 a0.k, va0]) ∧ Va ρ w 2 g2 28 ([.int .i64 a1.p, .int .i64 a1.n, .int .i64 a1.m, .int .i64 a1.k, va1]) ∧ Va ρ w 3 g3 28 ([.int .i64 0, .int .i64 0, .int .i64 0, .int .i64 0, (.slice none 0 0)]) ∧ Ow (kf cProd) 78 ρ w w0.heap.size 4 (.slice none 0 0) ([] : List Prod) ∧ Va ρ w 8 g8 89 (cVec3.enc (#v[a0.n, a0.m, a0.k] : Vec3)) ∧ Va ρ w 9 g9 89 (cVec3.enc (#v[a1.n, a1.m, a1.k] : Vec3))) ho4 ⟨_, hw, hf.sub ⟨rfl, rfl, rfl, rfl, rfl, rfl, rfl, trivial⟩, o1, o2, o3, o4, o8, o9⟩ ?_ ?_)
      · rintro s5 lr a w ⟨ρ, hw, hf, o1, o2, o3, o4, o8, o9⟩ hF
        replace hf : Fr 109 a [(2, .int .i64 a2), (3, .pointer (some ((⟨g1, 0, none⟩ : Addr).add 0))), (4, .pointer (some ((⟨g2, 0, none⟩ : Addr).add 0))), (6, .pointer (some ((⟨g3, 0, none⟩ : Addr).add 0))), (8, .pointer (some ((⟨g8, 0, none⟩ : Addr).add 0))), (9, .pointer (some ((⟨g9, 0, none⟩ : Addr).add 0))), (33, .int .i64 s5)] := hf
        replace o1 : Va ρ w 1 g1 28 ([.int .i64 a0.p, .int .i64 a0.n, .int .i64 a0.m, .int .i64 a0.k, va0]) := o1
        replace o2 : Va ρ w 2 g2 28 ([.int .i64 a1.p, .int .i64 a1.n, .int .i64 a1.m, .int .i64 a1.k, va1]) := o2
        replace o3 : Va ρ w 3 g3 28 ([.int .i64 0, .int .i64 0, .int .i64 0, .int .i64 0, (.slice none 0 0)]) := o3
        replace o4 : Ow (kf cProd) 78 ρ w w0.heap.size 4 (.slice none 0 0) ([] : List Prod) := o4
        replace o8 : Va ρ w 8 g8 89 (cVec3.enc (#v[a0.n, a0.m, a0.k] : Vec3)) := o8
        replace o9 : Va ρ w 9 g9 89 (cVec3.enc (#v[a1.n, a1.m, a1.k] : Vec3)) := o9
        replace hF : impl_joined_l4 a0 a1 a2 s5 = some lr := hF
        unfold impl_joined_l4 at hF
        refine c_seq ?_
        refine c_region ?_
        refine st hf rfl rfl (by decide) (r_lss hf rfl rfl) fun a hf => ?_
        refine c_nt ?_
        refine c_seq ?_
        rcases of_ite hF with ⟨hb6, hF⟩ | ⟨hb6, hF⟩
        · refine c_ift hf rfl hb6 ?_
          refine c_skip ?_
          refine n_then ?_
          refine c_seq ?_
          refine c_block ?_
          refine c_seq ?_
          refine c_region ?_
          refine st hf rfl rfl (by decide) (r_move hf rfl) fun a hf => ?_
          refine st hf rfl rfl (by decide) (r_assign hf rfl) fun a hf => ?_
          refine c_nt ?_
          refine c_seq ?_
          obtain ⟨s8, hT7, hG7⟩ := of_bind hF
          clear hF
          refine c_meet (fun (s : Bool) a w => ∃ ρ, Wd w0 ρ w ∧ Fr 109 a [(2, .int .i64 a2), (3, .pointer (some ((⟨g1, 0, none⟩ : Addr).add 0))), (4, .pointer (some ((⟨g2, 0, none⟩ : Addr).add 0))), (6, .pointer (some ((⟨g3, 0, none⟩ : Addr).add 0))), (8, .pointer (some ((⟨g8, 0, none⟩ : Addr).add 0))), (9, .pointer (some ((⟨g9, 0, none⟩ : Addr).add 0))), (33, .int .i64 s5), (47, .bool s)] ∧ Va ρ w 1 g1 28 ([.int .i64 a0.p, .int .i64 a0.n, .int .i64 a0.m, .int .i64 a0.k, va0]) ∧ Va ρ w 2 g2 28 ([.int .i64 a1.p, .int .i64 a1.n, .int .i64 a1.m, .int .i64 a1.k, va1]) ∧ Va ρ w 3 g3 28 ([.int .i64 0, .int .i64 0, .int .i64 0, .int .i64 0, (.slice none 0 0)]) ∧ Ow (kf cProd) 78 ρ w w0.heap.size 4 (.slice none 0 0) ([] : List Prod) ∧ Va ρ w 8 g8 89 (cVec3.enc (#v[a0.n, a0.m, a0.k] : Vec3)) ∧ Va ρ w 9 g9 89 (cVec3.enc (#v[a1.n, a1.m, a1.k] : Vec3))) s8 ?_ ?_
          · have hF := hT7
            rcases of_ite hF with ⟨hb9, hF⟩ | ⟨hb9, hF⟩
            · obtain ⟨hc10, hF⟩ := of_guard hF
              replace hf : Fr 109 a [(2, .int .i64 a2), (3, .pointer (some ((⟨g1, 0, none⟩ : Addr).add 0))), (4, .pointer (some ((⟨g2, 0, none⟩ : Addr).add 0))), (6, .pointer (some ((⟨g3, 0, none⟩ : Addr).add 0))), (8, .pointer (some ((⟨g8, 0, none⟩ : Addr).add 0))), (9, .pointer (some ((⟨g9, 0, none⟩ : Addr).add 0))), (10, .int .i64 s5), (33, .int .i64 s5)] := hf.sub ⟨rfl, rfl, rfl, rfl, rfl, rfl, rfl, rfl, trivial⟩
              refine c_drawL (h := 10) mixed (by kernel_rfl) (by kernel_rfl) (fun ρ w => Va ρ w 1 g1 28 ([.int .i64 a0.p, .int .i64 a0.n, .int .i64 a0.m, .int .i64 a0.k, va0]) ∧ Va ρ w 2 g2 28 ([.int .i64 a1.p, .int .i64 a1.n, .int .i64 a1.m, .int .i64 a1.k, va1]) ∧ Va ρ w 3 g3 28 ([.int .i64 0, .int .i64 0, .int .i64 0, .int .i64 0, (.slice none 0 0)]) ∧ Ow (kf cProd) 78 ρ w w0.heap.size 4 (.slice none 0 0) ([] : List Prod) ∧ Va ρ w 8 g8 89 (cVec3.enc (#v[a0.n, a0.m, a0.k] : Vec3)) ∧ Va ρ w 9 g9 89 (cVec3.enc (#v[a1.n, a1.m, a1.k] : Vec3))) ?_ [fun ρ w v => .int .i64 s5 = v, fun ρ w v => .int .i64 a2 = v, fun ρ w v => .bool (decide (s5 ≠ a2)) = v, fun ρ w v => .bool (decide (s5 ≠ a2)) = v, fun ρ w v => .int .i64 s5 = v, fun ρ w v => .pointer (some ((⟨g8, 0, none⟩ : Addr).add (0 + s5.toNat * 1))) = v, fun ρ w v => .int .i64 (vg 0 (#v[a0.n, a0.m, a0.k] : Vec3) s5) = v, fun ρ w v => .int .i64 s5 = v, fun ρ w v => .pointer (some ((⟨g9, 0, none⟩ : Addr).add (0 + s5.toNat * 1))) = v, fun ρ w v => .int .i64 (vg 0 (#v[a1.n, a1.m, a1.k] : Vec3) s5) = v] ?_ hw ⟨o1, o2, o3, o4, o8, o9⟩ hf ?_ ?_
              · intro ρ w ρ' w' hE hG
                obtain ⟨o1, o2, o3, o4, o8, o9⟩ := hG
                exact ⟨o1.ext hE, o2.ext hE, o3.ext hE, o4.ext hE, o8.ext hE, o9.ext hE⟩
              · exact LastsL.cons (fun _ _ _ _ _ _ h => h) <| LastsL.cons (fun _ _ _ _ _ _ h => h) <| LastsL.cons (fun _ _ _ _ _ _ h => h) <| LastsL.cons (fun _ _ _ _ _ _ h => h) <| LastsL.cons (fun _ _ _ _ _ _ h => h) <| LastsL.cons (fun _ _ _ _ _ _ h => h) <| LastsL.cons (fun _ _ _ _ _ _ h => h) <| LastsL.cons (fun _ _ _ _ _ _ h => h) <| LastsL.cons (fun _ _ _ _ _ _ h => h) <| LastsL.cons (fun _ _ _ _ _ _ h => h) <| LastsL.nil
              · refine StepsB.cons ?_ <| StepsB.cons ?_ <| StepsB.cons ?_ <| StepsB.cons ?_ <| StepsB.cons ?_ <| StepsB.cons ?_ <| StepsB.cons ?_ <| StepsB.cons ?_ <| StepsB.cons ?_ <| StepsB.cons ?_ <| StepsB.nil
                · intro ρ w a hw hG hf hd K hK
                  obtain ⟨o1, o2, o3, o4, o8, o9⟩ := hG
                  exact d_val (R := fun ρ w v => .int .i64 s5 = v) hw (wn rfl) (r_move hf rfl) rfl rfl hK
                · intro ρ w a hw hG hf hd K hK
                  obtain ⟨o1, o2, o3, o4, o8, o9⟩ := hG
                  exact d_val (R := fun ρ w v => .int .i64 a2 = v) hw (wn rfl) (r_move hf rfl) rfl rfl hK
                · intro ρ w a hw hG hf hd K hK
                  obtain ⟨o1, o2, o3, o4, o8, o9⟩ := hG
                  obtain ⟨_, ht, rfl⟩ := hd 0 (by kernel_rfl)
                  replace hf := hf.more ht
                  obtain ⟨_, ht, rfl⟩ := hd 1 (by kernel_rfl)
                  replace hf := hf.more ht
                  exact d_val (R := fun ρ w v => .bool (decide (s5 ≠ a2)) = v) hw (wn rfl) (r_neq hf rfl rfl) rfl rfl hK
                · intro ρ w a hw hG hf hd K hK
                  obtain ⟨o1, o2, o3, o4, o8, o9⟩ := hG
                  obtain ⟨_, ht, rfl⟩ := hd 2 (by kernel_rfl)
                  replace hf := hf.more ht
                  exact d_val (R := fun ρ w v => .bool (decide (s5 ≠ a2)) = v) hw (wn rfl) (r_move hf rfl) rfl rfl hK
                · intro ρ w a hw hG hf hd K hK
                  obtain ⟨o1, o2, o3, o4, o8, o9⟩ := hG
                  obtain ⟨_, ht, rfl⟩ := hd 3 (by kernel_rfl)
                  replace hf := hf.more ht
                  exact d_val (R := fun ρ w v => .int .i64 s5 = v) hw (wg (b := true) hf rfl rfl rfl hb9) (r_move hf rfl) rfl rfl hK
                · intro ρ w a hw hG hf hd K hK
                  obtain ⟨o1, o2, o3, o4, o8, o9⟩ := hG
                  obtain ⟨_, ht, rfl⟩ := hd 3 (by kernel_rfl)
                  replace hf := hf.more ht
                  obtain ⟨_, ht, rfl⟩ := hd 4 (by kernel_rfl)
                  replace hf := hf.more ht
                  exact d_val (R := fun ρ w v => .pointer (some ((⟨g8, 0, none⟩ : Addr).add (0 + s5.toNat * 1))) = v) hw (wg (b := true) hf rfl rfl rfl hb9) (r_indexAddr_arr Try.underlying89 sz2 hf rfl rfl hc10.1 hc10.2) rfl rfl hK
                · intro ρ w a hw hG hf hd K hK
                  obtain ⟨o1, o2, o3, o4, o8, o9⟩ := hG
                  obtain ⟨_, ht, rfl⟩ := hd 3 (by kernel_rfl)
                  replace hf := hf.more ht
                  obtain ⟨_, ht, rfl⟩ := hd 5 (by kernel_rfl)
                  replace hf := hf.more ht
                  exact d_val (R := fun ρ w v => .int .i64 (vg 0 (#v[a0.n, a0.m, a0.k] : Vec3) s5) = v) hw (wg (b := true) hf rfl rfl rfl hb9) (r_load_cell ty2 hf rfl (o8.cl.lens (Lens.vec 0 fI64 s5 hc10.1 hc10.2))) rfl rfl hK
                · intro ρ w a hw hG hf hd K hK
                  obtain ⟨o1, o2, o3, o4, o8, o9⟩ := hG
                  obtain ⟨_, ht, rfl⟩ := hd 3 (by kernel_rfl)
                  replace hf := hf.more ht
                  exact d_val (R := fun ρ w v => .int .i64 s5 = v) hw (wg (b := true) hf rfl rfl rfl hb9) (r_move hf rfl) rfl rfl hK
                · intro ρ w a hw hG hf hd K hK
                  obtain ⟨o1, o2, o3, o4, o8, o9⟩ := hG
                  obtain ⟨_, ht, rfl⟩ := hd 3 (by kernel_rfl)
                  replace hf := hf.more ht
                  obtain ⟨_, ht, rfl⟩ := hd 7 (by kernel_rfl)
                  replace hf := hf.more ht
                  exact d_val (R := fun ρ w v => .pointer (some ((⟨g9, 0, none⟩ : Addr).add (0 + s5.toNat * 1))) = v) hw (wg (b := true) hf rfl rfl rfl hb9) (r_indexAddr_arr Try.underlying89 sz2 hf rfl rfl hc10.1 hc10.2) rfl rfl hK
                · intro ρ w a hw hG hf hd K hK
                  obtain ⟨o1, o2, o3, o4, o8, o9⟩ := hG
                  obtain ⟨_, ht, rfl⟩ := hd 3 (by kernel_rfl)
                  replace hf := hf.more ht
                  obtain ⟨_, ht, rfl⟩ := hd 8 (by kernel_rfl)
                  replace hf := hf.more ht
                  exact d_val (R := fun ρ w v => .int .i64 (vg 0 (#v[a1.n, a1.m, a1.k] : Vec3) s5) = v) hw (wg (b := true) hf rfl rfl rfl hb9) (r_load_cell ty2 hf rfl (o9.cl.lens (Lens.vec 0 fI64 s5 hc10.1 hc10.2))) rfl rfl hK
              · intro ρ w a hw hG hf hd
                obtain ⟨o1, o2, o3, o4, o8, o9⟩ := hG
                replace hf : Fr 109 a [(2, .int .i64 a2), (3, .pointer (some ((⟨g1, 0, none⟩ : Addr).add 0))), (4, .pointer (some ((⟨g2, 0, none⟩ : Addr).add 0))), (6, .pointer (some ((⟨g3, 0, none⟩ : Addr).add 0))), (8, .pointer (some ((⟨g8, 0, none⟩ : Addr).add 0))), (9, .pointer (some ((⟨g9, 0, none⟩ : Addr).add 0))), (10, .int .i64 s5), (33, .int .i64 s5)] := hf
                obtain ⟨_, ht, rfl⟩ := hd 3 (by decide)
                replace hf := hf.more ht
                obtain ⟨_, ht, rfl⟩ := hd 6 (by decide)
                replace hf := hf.more ht
                obtain ⟨_, ht, rfl⟩ := hd 9 (by decide)
                replace hf := hf.more ht
                refine st_g (b := true) hf rfl rfl rfl hb9 rfl (by decide) (r_neq hf rfl rfl) fun a hf => ?_
                refine st hf rfl rfl (by decide) (r_pick (b := true) hf rfl hb9 rfl) fun a hf => ?_
                refine c_nil ⟨rfl, ?_⟩
                obtain rfl := Option.some.inj hF
                exact ⟨_, hw, hf.sub ⟨rfl, rfl, rfl, rfl, rfl, rfl, rfl, rfl, trivial⟩, o1, o2, o3, o4, o8, o9⟩
            · replace hf : Fr 109 a [(2, .int .i64 a2), (3, .pointer (some ((⟨g1, 0, none⟩ : Addr).add 0))), (4, .pointer (some ((⟨g2, 0, none⟩ : Addr).add 0))), (6, .pointer (some ((⟨g3, 0, none⟩ : Addr).add 0))), (8, .pointer (some ((⟨g8, 0, none⟩ : Addr).add 0))), (9, .pointer (some ((⟨g9, 0, none⟩ : Addr).add 0))), (10, .int .i64 s5), (33, .int .i64 s5)] := hf.sub ⟨rfl, rfl, rfl, rfl, rfl, rfl, rfl, rfl, trivial⟩
              refine c_drawL (h := 10) mixed (by kernel_rfl) (by kernel_rfl) (fun ρ w => Va ρ w 1 g1 28 ([.int .i64 a0.p, .int .i64 a0.n, .int .i64 a0.m, .int .i64 a0.k, va0]) ∧ Va ρ w 2 g2 28 ([.int .i64 a1.p, .int .i64 a1.n, .int .i64 a1.m, .int .i64 a1.k, va1]) ∧ Va ρ w 3 g3 28 ([.int .i64 0, .int .i64 0, .int .i64 0, .int .i64 0, (.slice none 0 0)]) ∧ Ow (kf cProd) 78 ρ w w0.heap.size 4 (.slice none 0 0) ([] : List Prod) ∧ Va ρ w 8 g8 89 (cVec3.enc (#v[a0.n, a0.m, a0.k] : Vec3)) ∧ Va ρ w 9 g9 89 (cVec3.enc (#v[a1.n, a1.m, a1.k] : Vec3))) ?_ [fun ρ w v => .int .i64 s5 = v, fun ρ w v => .int .i64 a2 = v, fun ρ w v => .bool (decide (s5 ≠ a2)) = v, fun ρ w v => .bool (decide (s5 ≠ a2)) = v, fun ρ w v => undef = v, fun ρ w v => undef = v, fun ρ w v => undef = v, fun ρ w v => undef = v, fun ρ w v => undef = v, fun ρ w v => undef = v] ?_ hw ⟨o1, o2, o3, o4, o8, o9⟩ hf ?_ ?_
              · intro ρ w ρ' w' hE hG
                obtain ⟨o1, o2, o3, o4, o8, o9⟩ := hG
                exact ⟨o1.ext hE, o2.ext hE, o3.ext hE, o4.ext hE, o8.ext hE, o9.ext hE⟩
              · exact LastsL.cons (fun _ _ _ _ _ _ h => h) <| LastsL.cons (fun _ _ _ _ _ _ h => h) <| LastsL.cons (fun _ _ _ _ _ _ h => h) <| LastsL.cons (fun _ _ _ _ _ _ h => h) <| LastsL.cons (fun _ _ _ _ _ _ h => h) <| LastsL.cons (fun _ _ _ _ _ _ h => h) <| LastsL.cons (fun _ _ _ _ _ _ h => h) <| LastsL.cons (fun _ _ _ _ _ _ h => h) <| LastsL.cons (fun _ _ _ _ _ _ h => h) <| LastsL.cons (fun _ _ _ _ _ _ h => h) <| LastsL.nil
              · refine StepsB.cons ?_ <| StepsB.cons ?_ <| StepsB.cons ?_ <| StepsB.cons ?_ <| StepsB.cons ?_ <| StepsB.cons ?_ <| StepsB.cons ?_ <| StepsB.cons ?_ <| StepsB.cons ?_ <| StepsB.cons ?_ <| StepsB.nil
                · intro ρ w a hw hG hf hd K hK
                  obtain ⟨o1, o2, o3, o4, o8, o9⟩ := hG
                  exact d_val (R := fun ρ w v => .int .i64 s5 = v) hw (wn rfl) (r_move hf rfl) rfl rfl hK
                · intro ρ w a hw hG hf hd K hK
                  obtain ⟨o1, o2, o3, o4, o8, o9⟩ := hG
                  exact d_val (R := fun ρ w v => .int .i64 a2 = v) hw (wn rfl) (r_move hf rfl) rfl rfl hK
                · intro ρ w a hw hG hf hd K hK
                  obtain ⟨o1, o2, o3, o4, o8, o9⟩ := hG
                  obtain ⟨_, ht, rfl⟩ := hd 0 (by kernel_rfl)
                  replace hf := hf.more ht
                  obtain ⟨_, ht, rfl⟩ := hd 1 (by kernel_rfl)
                  replace hf := hf.more ht
                  exact d_val (R := fun ρ w v => .bool (decide (s5 ≠ a2)) = v) hw (wn rfl) (r_neq hf rfl rfl) rfl rfl hK
                · intro ρ w a hw hG hf hd K hK
                  obtain ⟨o1, o2, o3, o4, o8, o9⟩ := hG
                  obtain ⟨_, ht, rfl⟩ := hd 2 (by kernel_rfl)
                  replace hf := hf.more ht
                  exact d_val (R := fun ρ w v => .bool (decide (s5 ≠ a2)) = v) hw (wn rfl) (r_move hf rfl) rfl rfl hK
                · intro ρ w a hw hG hf hd K hK
                  obtain ⟨o1, o2, o3, o4, o8, o9⟩ := hG
                  obtain ⟨_, ht, rfl⟩ := hd 3 (by kernel_rfl)
                  replace hf := hf.more ht
                  exact d_off (R := fun ρ w v => undef = v) (b := false) hw hf rfl rfl rfl hb9 rfl rfl hK
                · intro ρ w a hw hG hf hd K hK
                  obtain ⟨o1, o2, o3, o4, o8, o9⟩ := hG
                  obtain ⟨_, ht, rfl⟩ := hd 3 (by kernel_rfl)
                  replace hf := hf.more ht
                  obtain ⟨_, ht, rfl⟩ := hd 4 (by kernel_rfl)
                  replace hf := hf.more ht
                  exact d_off (R := fun ρ w v => undef = v) (b := false) hw hf rfl rfl rfl hb9 rfl rfl hK
                · intro ρ w a hw hG hf hd K hK
                  obtain ⟨o1, o2, o3, o4, o8, o9⟩ := hG
                  obtain ⟨_, ht, rfl⟩ := hd 3 (by kernel_rfl)
                  replace hf := hf.more ht
                  obtain ⟨_, ht, rfl⟩ := hd 5 (by kernel_rfl)
                  replace hf := hf.more ht
                  exact d_off (R := fun ρ w v => undef = v) (b := false) hw hf rfl rfl rfl hb9 rfl rfl hK
                · intro ρ w a hw hG hf hd K hK
                  obtain ⟨o1, o2, o3, o4, o8, o9⟩ := hG
                  obtain ⟨_, ht, rfl⟩ := hd 3 (by kernel_rfl)
                  replace hf := hf.more ht
                  exact d_off (R := fun ρ w v => undef = v) (b := false) hw hf rfl rfl rfl hb9 rfl rfl hK
                · intro ρ w a hw hG hf hd K hK
                  obtain ⟨o1, o2, o3, o4, o8, o9⟩ := hG
                  obtain ⟨_, ht, rfl⟩ := hd 3 (by kernel_rfl)
                  replace hf := hf.more ht
                  obtain ⟨_, ht, rfl⟩ := hd 7 (by kernel_rfl)
                  replace hf := hf.more ht
                  exact d_off (R := fun ρ w v => undef = v) (b := false) hw hf rfl rfl rfl hb9 rfl rfl hK
                · intro ρ w a hw hG hf hd K hK
                  obtain ⟨o1, o2, o3, o4, o8, o9⟩ := hG
                  obtain ⟨_, ht, rfl⟩ := hd 3 (by kernel_rfl)
                  replace hf := hf.more ht
                  obtain ⟨_, ht, rfl⟩ := hd 8 (by kernel_rfl)
                  replace hf := hf.more ht
                  exact d_off (R := fun ρ w v => undef = v) (b := false) hw hf rfl rfl rfl hb9 rfl rfl hK
              · intro ρ w a hw hG hf hd
                obtain ⟨o1, o2, o3, o4, o8, o9⟩ := hG
                replace hf : Fr 109 a [(2, .int .i64 a2), (3, .pointer (some ((⟨g1, 0, none⟩ : Addr).add 0))), (4, .pointer (some ((⟨g2, 0, none⟩ : Addr).add 0))), (6, .pointer (some ((⟨g3, 0, none⟩ : Addr).add 0))), (8, .pointer (some ((⟨g8, 0, none⟩ : Addr).add 0))), (9, .pointer (some ((⟨g9, 0, none⟩ : Addr).add 0))), (10, .int .i64 s5), (33, .int .i64 s5)] := hf
                obtain ⟨_, ht, rfl⟩ := hd 3 (by decide)
                replace hf := hf.more ht
                obtain ⟨_, ht, rfl⟩ := hd 6 (by decide)
                replace hf := hf.more ht
                obtain ⟨_, ht, rfl⟩ := hd 9 (by decide)
                replace hf := hf.more ht
                refine st_no (b := false) hf rfl rfl rfl hb9 rfl (by decide) fun a hf => ?_
                refine st hf rfl rfl (by decide) (r_pick (b := false) hf rfl hb9 rfl) fun a hf => ?_
                refine c_nil ⟨rfl, ?_⟩
                obtain rfl := Option.some.inj hF
                exact ⟨_, hw, hf.sub ⟨rfl, rfl, rfl, rfl, rfl, rfl, rfl, rfl, trivial⟩, o1, o2, o3, o4, o8, o9⟩
          · rintro a w ⟨ρ, hw, hf, o1, o2, o3, o4, o8, o9⟩
            replace hf : Fr 109 a [(2, .int .i64 a2), (3, .pointer (some ((⟨g1, 0, none⟩ : Addr).add 0))), (4, .pointer (some ((⟨g2, 0, none⟩ : Addr).add 0))), (6, .pointer (some ((⟨g3, 0, none⟩ : Addr).add 0))), (8, .pointer (some ((⟨g8, 0, none⟩ : Addr).add 0))), (9, .pointer (some ((⟨g9, 0, none⟩ : Addr).add 0))), (33, .int .i64 s5), (47, .bool s8)] := hf
            replace o1 : Va ρ w 1 g1 28 ([.int .i64 a0.p, .int .i64 a0.n, .int .i64 a0.m, .int .i64 a0.k, va0]) := o1
            replace o2 : Va ρ w 2 g2 28 ([.int .i64 a1.p, .int .i64 a1.n, .int .i64 a1.m, .int .i64 a1.k, va1]) := o2
            replace o3 : Va ρ w 3 g3 28 ([.int .i64 0, .int .i64 0, .int .i64 0, .int .i64 0, (.slice none 0 0)]) := o3
            replace o4 : Ow (kf cProd) 78 ρ w w0.heap.size 4 (.slice none 0 0) ([] : List Prod) := o4
            replace o8 : Va ρ w 8 g8 89 (cVec3.enc (#v[a0.n, a0.m, a0.k] : Vec3)) := o8
            replace o9 : Va ρ w 9 g9 89 (cVec3.enc (#v[a1.n, a1.m, a1.k] : Vec3)) := o9
            have hF := hG7
            refine n_then ?_
            rcases of_ite hF with ⟨hb11, hF⟩ | ⟨hb11, hF⟩
            · refine c_ift hf rfl hb11 ?_
              refine c_seq ?_
              refine c_region ?_
              have o10 : Ow (kf cProd) 78 ρ w w0.heap.size 10 (.slice none 0 0) [] := Ow.nil _ _ _ _ _ _
              refine st hf rfl rfl (by decide) (r_build_struct (pl := [(0, 1), (1, 1), (2, 1), (3, 1), (4, 1)]) (vs := []) (res := ([.int .i64 0, .int .i64 0, .int .i64 0, .int .i64 0, (.slice none 0 0)]).toArray) Try.underlying28 (by kernel_rfl) ze28 hf rfl rfl rfl) fun a hf => ?_
              refine st_skip hf rfl rfl (r_store_w (cs' := [.int .i64 0, .int .i64 0, .int .i64 0, .int .i64 0, (.slice none 0 0)]) hw o3 (by decide) ty28 rfl rfl (one_sch o10.ro.one) hf rfl rfl rfl) fun a w hf hΦ => ?_
              obtain ⟨hw, hA, o3⟩ := hΦ
              replace o1 := o1.adv hA (by decide)
              replace o2 := o2.adv hA (by decide)
              replace o4 := o4.adv hA (by decide)
              replace o8 := o8.adv hA (by decide)
              replace o9 := o9.adv hA (by decide)
              replace o10 := o10.adv hA (by decide)
              refine st hf rfl rfl (by decide) (r_assign hf rfl) fun a hf => ?_
              refine c_nt ?_
              refine c_retc ?_
              obtain rfl := Option.some.inj hF
              refine r_block ?_
              refine r_then ?_
              refine Rnd.rets fun ho => ?_
              subst ho
              have hF := hG4
              dsimp only at hF
              obtain rfl := Option.some.inj hF
              refine r_block ?_
              refine r_then ?_
              refine c_ret hf (res_ct Try.results65 ty28 hf rfl o3.cl rfl rfl) ?_
              exact ⟨_, rfl, hw.below, ⟨_, rfl, o10.out⟩⟩
            · refine c_iff hf rfl hb11 ?_
              refine c_skip ?_
              refine n_block ?_
              refine n_then ?_
              refine c_region ?_
              refine st hf rfl rfl (by decide) (r_add hf rfl rfl) fun a hf => ?_
              refine st hf rfl rfl (by decide) (r_move hf rfl) fun a hf => ?_
              refine c_nil ?_
              obtain rfl := Option.some.inj hF
              exact Rnd.goes ⟨_, hw, hf.sub ⟨rfl, rfl, rfl, rfl, rfl, rfl, rfl, trivial⟩, o1, o2, o3, o4, o8, o9⟩
        · refine c_iff hf rfl hb6 ?_
          refine c_exit ?_
          refine x_then ?_
          obtain rfl := Option.some.inj hF
          exact Rnd.stops ⟨_, hw, hf.sub ⟨rfl, rfl, rfl, rfl, rfl, rfl, trivial⟩, o1, o2, o3, o4, o8, o9⟩
      · rintro s5 a w hs ⟨ρ, hw, hf, o1, o2, o3, o4, o8, o9⟩
        subst hs
        replace hf : Fr 109 a [(2, .int .i64 a2), (3, .pointer (some ((⟨g1, 0, none⟩ : Addr).add 0))), (4, .pointer (some ((⟨g2, 0, none⟩ : Addr).add 0))), (6, .pointer (some ((⟨g3, 0, none⟩ : Addr).add 0))), (8, .pointer (some ((⟨g8, 0, none⟩ : Addr).add 0))), (9, .pointer (some ((⟨g9, 0, none⟩ : Addr).add 0)))] := hf
        replace o1 : Va ρ w 1 g1 28 ([.int .i64 a0.p, .int .i64 a0.n, .int .i64 a0.m, .int .i64 a0.k, va0]) := o1
        replace o2 : Va ρ w 2 g2 28 ([.int .i64 a1.p, .int .i64 a1.n, .int .i64 a1.m, .int .i64 a1.k, va1]) := o2
        replace o3 : Va ρ w 3 g3 28 ([.int .i64 0, .int .i64 0, .int .i64 0, .int .i64 0, (.slice none 0 0)]) := o3
        replace o4 : Ow (kf cProd) 78 ρ w w0.heap.size 4 (.slice none 0 0) ([] : List Prod) := o4
        replace o8 : Va ρ w 8 g8 89 (cVec3.enc (#v[a0.n, a0.m, a0.k] : Vec3)) := o8
        replace o9 : Va ρ w 9 g9 89 (cVec3.enc (#v[a1.n, a1.m, a1.k] : Vec3)) := o9
        have hF := hG4
        dsimp only at hF
        refine x_block ?_
        refine n_then ?_
        refine c_seq ?_
        refine c_seq ?_
        refine c_region ?_
        refine st hf rfl rfl (by decide) (r_fa fa28_0 hf rfl) fun a hf => ?_
        refine st hf rfl rfl (by decide) (r_load_cell ty2 hf rfl (o1.cl.at_ 0 _ rfl)) fun a hf => ?_
        refine st hf rfl rfl (by decide) (r_fa fa28_0 hf rfl) fun a hf => ?_
        refine st hf rfl rfl (by decide) (r_load_cell ty2 hf rfl (o2.cl.at_ 0 _ rfl)) fun a hf => ?_
        refine st hf rfl rfl (by decide) (r_neq hf rfl rfl) fun a hf => ?_
        refine c_nt ?_
        rcases of_ite hF with ⟨hb12, hF⟩ | ⟨hb12, hF⟩
        · refine c_ift hf rfl hb12 ?_
          refine c_seq ?_
          refine c_region ?_
          have o11 : Ow (kf cProd) 78 ρ w w0.heap.size 11 (.slice none 0 0) [] := Ow.nil _ _ _ _ _ _
          refine st hf rfl rfl (by decide) (r_build_struct (pl := [(0, 1), (1, 1), (2, 1), (3, 1), (4, 1)]) (vs := []) (res := ([.int .i64 0, .int .i64 0, .int .i64 0, .int .i64 0, (.slice none 0 0)]).toArray) Try.underlying28 (by kernel_rfl) ze28 hf rfl rfl rfl) fun a hf => ?_
          refine st_skip hf rfl rfl (r_store_w (cs' := [.int .i64 0, .int .i64 0, .int .i64 0, .int .i64 0, (.slice none 0 0)]) hw o3 (by decide) ty28 rfl rfl (one_sch o11.ro.one) hf rfl rfl rfl) fun a w hf hΦ => ?_
          obtain ⟨hw, hA, o3⟩ := hΦ
          replace o1 := o1.adv hA (by decide)
          replace o2 := o2.adv hA (by decide)
          replace o4 := o4.adv hA (by decide)
          replace o8 := o8.adv hA (by decide)
          replace o9 := o9.adv hA (by decide)
          replace o11 := o11.adv hA (by decide)
          refine st hf rfl rfl (by decide) (r_assign hf rfl) fun a hf => ?_
          refine c_nt ?_
          refine c_retc ?_
          obtain rfl := Option.some.inj hF
          refine r_then ?_
          refine c_ret hf (res_ct Try.results65 ty28 hf rfl o3.cl rfl rfl) ?_
          exact ⟨_, rfl, hw.below, ⟨_, rfl, o11.out⟩⟩
        · refine c_iff hf rfl hb12 ?_
          refine c_skip ?_
          refine n_then ?_
          refine c_seq ?_
          refine c_region ?_
          refine st hf rfl rfl (by decide) (r_build_arr (vs := []) (res := (cVec3.enc zVec3).toArray) Try.underlying89 sz2 ze89 hf rfl rfl rfl) fun a hf => ?_
          refine st_ex hf rfl rfl (by decide) (r_alloc (cs := cVec3.enc zVec3) 12 ze89 rfl hw) fun a v w hf hΦ => ?_
          obtain ⟨g12, ρ, rfl, hw, hE, o12⟩ := hΦ
          replace o1 := o1.ext hE
          replace o2 := o2.ext hE
          replace o3 := o3.ext hE
          replace o4 := o4.ext hE
          replace o8 := o8.ext hE
          replace o9 := o9.ext hE
          refine st_skip hf rfl rfl (r_store_w (cs' := cVec3.enc zVec3) hw o12 (by decide) ty89 (cVec3.len _) (cVec3.len _) (cVec3.one _) hf rfl rfl rfl) fun a w hf hΦ => ?_
          obtain ⟨hw, hA, o12⟩ := hΦ
          replace o1 := o1.adv hA (by decide)
          replace o2 := o2.adv hA (by decide)
          replace o3 := o3.adv hA (by decide)
          replace o4 := o4.adv hA (by decide)
          replace o8 := o8.adv hA (by decide)
          replace o9 := o9.adv hA (by decide)
          refine c_nt ?_
          refine c_seq ?_
          refine c_region ?_
          refine st hf rfl rfl (by decide) (r_move hf rfl) fun a hf => ?_
          refine st hf rfl rfl (by decide) (r_move hf rfl) fun a hf => ?_
          obtain ⟨hc13, hF⟩ := of_guard hF
          refine st hf rfl rfl (by decide) (r_indexAddr_arr Try.underlying89 sz2 hf rfl rfl hc13.1 hc13.2) fun a hf => ?_
          refine st hf rfl rfl (by decide) (r_load_cell ty2 hf rfl (o8.cl.lens (Lens.vec 0 fI64 a2 hc13.1 hc13.2))) fun a hf => ?_
          refine st hf rfl rfl (by decide) (r_indexAddr_arr Try.underlying89 sz2 hf rfl rfl hc13.1 hc13.2) fun a hf => ?_
          refine st_skip hf rfl rfl (r_store_l (b := vg 0 (#v[a0.n, a0.m, a0.k] : Vec3) a2) hw o12 (by decide) (Lens.vec 0 fI64 a2 hc13.1 hc13.2) (by simp only [Nat.zero_add] <;> rfl) ty2 hf rfl rfl rfl) fun a w hf hΦ => ?_
          obtain ⟨hw, hA, o12⟩ := hΦ
          replace o1 := o1.adv hA (by decide)
          replace o2 := o2.adv hA (by decide)
          replace o3 := o3.adv hA (by decide)
          replace o4 := o4.adv hA (by decide)
          replace o8 := o8.adv hA (by decide)
          replace o9 := o9.adv hA (by decide)
          refine c_nt ?_
          refine c_seq ?_
          replace hf : Fr 109 a [(2, .int .i64 a2), (3, .pointer (some ((⟨g1, 0, none⟩ : Addr).add 0))), (4, .pointer (some ((⟨g2, 0, none⟩ : Addr).add 0))), (6, .pointer (some ((⟨g3, 0, none⟩ : Addr).add 0))), (8, .pointer (some ((⟨g8, 0, none⟩ : Addr).add 0))), (9, .pointer (some ((⟨g9, 0, none⟩ : Addr).add 0))), (11, .pointer (some ((⟨g12, 0, none⟩ : Addr).add 0)))] := hf.sub ⟨rfl, rfl, rfl, rfl, rfl, rfl, rfl, trivial⟩
          refine c_drawL (h := 6) mixed (by kernel_rfl) (by kernel_rfl) (fun ρ w => Va ρ w 1 g1 28 ([.int .i64 a0.p, .int .i64 a0.n, .int .i64 a0.m, .int .i64 a0.k, va0]) ∧ Va ρ w 2 g2 28 ([.int .i64 a1.p, .int .i64 a1.n, .int .i64 a1.m, .int .i64 a1.k, va1]) ∧ Va ρ w 3 g3 28 ([.int .i64 0, .int .i64 0, .int .i64 0, .int .i64 0, (.slice none 0 0)]) ∧ Ow (kf cProd) 78 ρ w w0.heap.size 4 (.slice none 0 0) ([] : List Prod) ∧ Va ρ w 8 g8 89 (cVec3.enc (#v[a0.n, a0.m, a0.k] : Vec3)) ∧ Va ρ w 9 g9 89 (cVec3.enc (#v[a1.n, a1.m, a1.k] : Vec3)) ∧ Va ρ w 12 g12 89 (cVec3.enc (vs zVec3 a2 (vg 0 (#v[a0.n, a0.m, a0.k] : Vec3) a2)))) ?_ [fun ρ w v => .int .i64 a2 = v, fun ρ w v => .pointer (some ((⟨g8, 0, none⟩ : Addr).add (0 + a2.toNat * 1))) = v, fun ρ w v => .int .i64 (vg 0 (#v[a0.n, a0.m, a0.k] : Vec3) a2) = v, fun ρ w v => .int .i64 a2 = v, fun ρ w v => .pointer (some ((⟨g9, 0, none⟩ : Addr).add (0 + a2.toNat * 1))) = v, fun ρ w v => .int .i64 (vg 0 (#v[a1.n, a1.m, a1.k] : Vec3) a2) = v] ?_ hw ⟨o1, o2, o3, o4, o8, o9, o12⟩ hf ?_ ?_
          · intro ρ w ρ' w' hE hG
            obtain ⟨o1, o2, o3, o4, o8, o9, o12⟩ := hG
            exact ⟨o1.ext hE, o2.ext hE, o3.ext hE, o4.ext hE, o8.ext hE, o9.ext hE, o12.ext hE⟩
          · exact LastsL.cons (fun _ _ _ _ _ _ h => h) <| LastsL.cons (fun _ _ _ _ _ _ h => h) <| LastsL.cons (fun _ _ _ _ _ _ h => h) <| LastsL.cons (fun _ _ _ _ _ _ h => h) <| LastsL.cons (fun _ _ _ _ _ _ h => h) <| LastsL.cons (fun _ _ _ _ _ _ h => h) <| LastsL.nil
          · refine StepsB.cons ?_ <| StepsB.cons ?_ <| StepsB.cons ?_ <| StepsB.cons ?_ <| StepsB.cons ?_ <| StepsB.cons ?_ <| StepsB.nil
            · intro ρ w a hw hG hf hd K hK
              obtain ⟨o1, o2, o3, o4, o8, o9, o12⟩ := hG
              exact d_val (R := fun ρ w v => .int .i64 a2 = v) hw (wn rfl) (r_move hf rfl) rfl rfl hK
            · intro ρ w a hw hG hf hd K hK
              obtain ⟨o1, o2, o3, o4, o8, o9, o12⟩ := hG
              obtain ⟨_, ht, rfl⟩ := hd 0 (by kernel_rfl)
              replace hf := hf.more ht
              exact d_val (R := fun ρ w v => .pointer (some ((⟨g8, 0, none⟩ : Addr).add (0 + a2.toNat * 1))) = v) hw (wn rfl) (r_indexAddr_arr Try.underlying89 sz2 hf rfl rfl hc13.1 hc13.2) rfl rfl hK
            · intro ρ w a hw hG hf hd K hK
              obtain ⟨o1, o2, o3, o4, o8, o9, o12⟩ := hG
              obtain ⟨_, ht, rfl⟩ := hd 1 (by kernel_rfl)
              replace hf := hf.more ht
              exact d_val (R := fun ρ w v => .int .i64 (vg 0 (#v[a0.n, a0.m, a0.k] : Vec3) a2) = v) hw (wn rfl) (r_load_cell ty2 hf rfl (o8.cl.lens (Lens.vec 0 fI64 a2 hc13.1 hc13.2))) rfl rfl hK
            · intro ρ w a hw hG hf hd K hK
              obtain ⟨o1, o2, o3, o4, o8, o9, o12⟩ := hG
              exact d_val (R := fun ρ w v => .int .i64 a2 = v) hw (wn rfl) (r_move hf rfl) rfl rfl hK
            · intro ρ w a hw hG hf hd K hK
              obtain ⟨o1, o2, o3, o4, o8, o9, o12⟩ := hG
              obtain ⟨_, ht, rfl⟩ := hd 3 (by kernel_rfl)
              replace hf := hf.more ht
              exact d_val (R := fun ρ w v => .pointer (some ((⟨g9, 0, none⟩ : Addr).add (0 + a2.toNat * 1))) = v) hw (wn rfl) (r_indexAddr_arr Try.underlying89 sz2 hf rfl rfl hc13.1 hc13.2) rfl rfl hK
            · intro ρ w a hw hG hf hd K hK
              obtain ⟨o1, o2, o3, o4, o8, o9, o12⟩ := hG
              obtain ⟨_, ht, rfl⟩ := hd 4 (by kernel_rfl)
              replace hf := hf.more ht
              exact d_val (R := fun ρ w v => .int .i64 (vg 0 (#v[a1.n, a1.m, a1.k] : Vec3) a2) = v) hw (wn rfl) (r_load_cell ty2 hf rfl (o9.cl.lens (Lens.vec 0 fI64 a2 hc13.1 hc13.2))) rfl rfl hK
          · intro ρ w a hw hG hf hd
            obtain ⟨o1, o2, o3, o4, o8, o9, o12⟩ := hG
            replace hf : Fr 109 a [(2, .int .i64 a2), (3, .pointer (some ((⟨g1, 0, none⟩ : Addr).add 0))), (4, .pointer (some ((⟨g2, 0, none⟩ : Addr).add 0))), (6, .pointer (some ((⟨g3, 0, none⟩ : Addr).add 0))), (8, .pointer (some ((⟨g8, 0, none⟩ : Addr).add 0))), (9, .pointer (some ((⟨g9, 0, none⟩ : Addr).add 0))), (11, .pointer (some ((⟨g12, 0, none⟩ : Addr).add 0)))] := hf
            obtain ⟨_, ht, rfl⟩ := hd 0 (by decide)
            replace hf := hf.more ht
            obtain ⟨_, ht, rfl⟩ := hd 2 (by decide)
            replace hf := hf.more ht
            obtain ⟨_, ht, rfl⟩ := hd 5 (by decide)
            replace hf := hf.more ht
            refine st hf rfl rfl (by decide) (r_add hf rfl rfl) fun a hf => ?_
            refine st hf rfl rfl (by decide) (r_indexAddr_arr Try.underlying89 sz2 hf rfl rfl hc13.1 hc13.2) fun a hf => ?_
            refine st_skip hf rfl rfl (r_store_l (b := w64 ((vg 0 (#v[a0.n, a0.m, a0.k] : Vec3) a2) + (vg 0 (#v[a1.n, a1.m, a1.k] : Vec3) a2))) hw o8 (by decide) (Lens.vec 0 fI64 a2 hc13.1 hc13.2) (by simp only [Nat.zero_add] <;> rfl) ty2 hf rfl rfl rfl) fun a w hf hΦ => ?_
            obtain ⟨hw, hA, o8⟩ := hΦ
            replace o1 := o1.adv hA (by decide)
            replace o2 := o2.adv hA (by decide)
            replace o3 := o3.adv hA (by decide)
            replace o4 := o4.adv hA (by decide)
            replace o9 := o9.adv hA (by decide)
            replace o12 := o12.adv hA (by decide)
            refine c_nt ?_
            refine c_seq ?_
            refine c_seq ?_
            obtain ⟨s15, hT14, hG14⟩ := of_bind hF
            clear hF
            refine c_meet (fun (s : Bool) a w => ∃ ρ, Wd w0 ρ w ∧ Fr 109 a [(3, .pointer (some ((⟨g1, 0, none⟩ : Addr).add 0))), (4, .pointer (some ((⟨g2, 0, none⟩ : Addr).add 0))), (6, .pointer (some ((⟨g3, 0, none⟩ : Addr).add 0))), (8, .pointer (some ((⟨g8, 0, none⟩ : Addr).add 0))), (11, .pointer (some ((⟨g12, 0, none⟩ : Addr).add 0))), (83, .bool s)] ∧ Va ρ w 1 g1 28 ([.int .i64 a0.p, .int .i64 a0.n, .int .i64 a0.m, .int .i64 a0.k, va0]) ∧ Va ρ w 2 g2 28 ([.int .i64 a1.p, .int .i64 a1.n, .int .i64 a1.m, .int .i64 a1.k, va1]) ∧ Va ρ w 3 g3 28 ([.int .i64 0, .int .i64 0, .int .i64 0, .int .i64 0, (.slice none 0 0)]) ∧ Ow (kf cProd) 78 ρ w w0.heap.size 4 (.slice none 0 0) ([] : List Prod) ∧ Va ρ w 8 g8 89 (cVec3.enc (vs (#v[a0.n, a0.m, a0.k] : Vec3) a2 (w64 ((vg 0 (#v[a0.n, a0.m, a0.k] : Vec3) a2) + (vg 0 (#v[a1.n, a1.m, a1.k] : Vec3) a2))))) ∧ Va ρ w 12 g12 89 (cVec3.enc (vs zVec3 a2 (vg 0 (#v[a0.n, a0.m, a0.k] : Vec3) a2)))) s15 ?_ ?_
            · have hF := hT14
              refine c_region ?_
              refine st hf rfl rfl (by decide) (r_move hf rfl) fun a hf => ?_
              refine st hf rfl rfl (by decide) (r_indexAddr_arr Try.underlying89 sz2 hf rfl rfl hc13.1 hc13.2) fun a hf => ?_
              refine st hf rfl rfl (by decide) (r_load_cell ty2 hf rfl (o8.cl.lens (Lens.vec 0 fI64 a2 hc13.1 hc13.2))) fun a hf => ?_
              refine st hf rfl rfl (by decide) (r_gtr hf rfl rfl) fun a hf => ?_
              refine st hf rfl rfl (by decide) (r_move hf rfl) fun a hf => ?_
              rcases of_ite hF with ⟨hb16, hF⟩ | ⟨hb16, hF⟩
              · refine st_no (b := true) hf rfl rfl rfl hb16 rfl (by decide) fun a hf => ?_
                refine st_no (b := true) hf rfl rfl rfl hb16 rfl (by decide) fun a hf => ?_
                refine st_no (b := true) hf rfl rfl rfl hb16 rfl (by decide) fun a hf => ?_
                refine st_no (b := true) hf rfl rfl rfl hb16 rfl (by decide) fun a hf => ?_
                refine st_no (b := true) hf rfl rfl rfl hb16 rfl (by decide) fun a hf => ?_
                refine st_no (b := true) hf rfl rfl rfl hb16 rfl (by decide) fun a hf => ?_
                refine st_no (b := true) hf rfl rfl rfl hb16 rfl (by decide) fun a hf => ?_
                refine st_no (b := true) hf rfl rfl rfl hb16 rfl (by decide) fun a hf => ?_
                refine st hf rfl rfl (by decide) (r_pick (b := true) hf rfl hb16 rfl) fun a hf => ?_
                refine c_nil ⟨rfl, ?_⟩
                obtain rfl := Option.some.inj hF
                exact ⟨_, hw, hf.sub ⟨rfl, rfl, rfl, rfl, rfl, rfl, trivial⟩, o1, o2, o3, o4, o8, o12⟩
              · refine st_g (b := false) hf rfl rfl rfl hb16 rfl (by decide) (r_fa fa28_4 hf rfl) fun a hf => ?_
                refine st_g (b := false) hf rfl rfl rfl hb16 rfl (by decide) (r_load_cell ty26 hf rfl (o1.cl.at_ 4 _ rfl)) fun a hf => ?_
                refine st_g (b := false) hf rfl rfl rfl hb16 rfl (by decide) (r_len Try.underlying26 (h0.now hw) hf rfl) fun a hf => ?_
                refine st_g (b := false) hf rfl rfl rfl hb16 rfl (by decide) (r_fa fa28_4 hf rfl) fun a hf => ?_
                refine st_g (b := false) hf rfl rfl rfl hb16 rfl (by decide) (r_load_cell ty26 hf rfl (o2.cl.at_ 4 _ rfl)) fun a hf => ?_
                refine st_g (b := false) hf rfl rfl rfl hb16 rfl (by decide) (r_len Try.underlying26 (h1.now hw) hf rfl) fun a hf => ?_
                refine st_g (b := false) hf rfl rfl rfl hb16 rfl (by decide) (r_add hf rfl rfl) fun a hf => ?_
                refine st_g (b := false) hf rfl rfl rfl hb16 rfl (by decide) (r_gtr hf rfl rfl) fun a hf => ?_
                refine st hf rfl rfl (by decide) (r_pick (b := false) hf rfl hb16 rfl) fun a hf => ?_
                refine c_nil ⟨rfl, ?_⟩
                obtain rfl := Option.some.inj hF
                exact ⟨_, hw, hf.sub ⟨rfl, rfl, rfl, rfl, rfl, rfl, trivial⟩, o1, o2, o3, o4, o8, o12⟩
            · rintro a w ⟨ρ, hw, hf, o1, o2, o3, o4, o8, o12⟩
              replace hf : Fr 109 a [(3, .pointer (some ((⟨g1, 0, none⟩ : Addr).add 0))), (4, .pointer (some ((⟨g2, 0, none⟩ : Addr).add 0))), (6, .pointer (some ((⟨g3, 0, none⟩ : Addr).add 0))), (8, .pointer (some ((⟨g8, 0, none⟩ : Addr).add 0))), (11, .pointer (some ((⟨g12, 0, none⟩ : Addr).add 0))), (83, .bool s15)] := hf
              replace o1 : Va ρ w 1 g1 28 ([.int .i64 a0.p, .int .i64 a0.n, .int .i64 a0.m, .int .i64 a0.k, va0]) := o1
              replace o2 : Va ρ w 2 g2 28 ([.int .i64 a1.p, .int .i64 a1.n, .int .i64 a1.m, .int .i64 a1.k, va1]) := o2
              replace o3 : Va ρ w 3 g3 28 ([.int .i64 0, .int .i64 0, .int .i64 0, .int .i64 0, (.slice none 0 0)]) := o3
              replace o4 : Ow (kf cProd) 78 ρ w w0.heap.size 4 (.slice none 0 0) ([] : List Prod) := o4
              replace o8 : Va ρ w 8 g8 89 (cVec3.enc (vs (#v[a0.n, a0.m, a0.k] : Vec3) a2 (w64 ((vg 0 (#v[a0.n, a0.m, a0.k] : Vec3) a2) + (vg 0 (#v[a1.n, a1.m, a1.k] : Vec3) a2))))) := o8
              replace o12 : Va ρ w 12 g12 89 (cVec3.enc (vs zVec3 a2 (vg 0 (#v[a0.n, a0.m, a0.k] : Vec3) a2))) := o12
              have hF := hG14
              refine n_then ?_
              rcases of_ite hF with ⟨hb17, hF⟩ | ⟨hb17, hF⟩
              · refine c_ift hf rfl hb17 ?_
                refine c_seq ?_
                refine c_region ?_
                have o13 : Ow (kf cProd) 78 ρ w w0.heap.size 13 (.slice none 0 0) [] := Ow.nil _ _ _ _ _ _
                refine st hf rfl rfl (by decide) (r_build_struct (pl := [(0, 1), (1, 1), (2, 1), (3, 1), (4, 1)]) (vs := []) (res := ([.int .i64 0, .int .i64 0, .int .i64 0, .int .i64 0, (.slice none 0 0)]).toArray) Try.underlying28 (by kernel_rfl) ze28 hf rfl rfl rfl) fun a hf => ?_
                refine st_skip hf rfl rfl (r_store_w (cs' := [.int .i64 0, .int .i64 0, .int .i64 0, .int .i64 0, (.slice none 0 0)]) hw o3 (by decide) ty28 rfl rfl (one_sch o13.ro.one) hf rfl rfl rfl) fun a w hf hΦ => ?_
                obtain ⟨hw, hA, o3⟩ := hΦ
                replace o1 := o1.adv hA (by decide)
                replace o2 := o2.adv hA (by decide)
                replace o4 := o4.adv hA (by decide)
                replace o8 := o8.adv hA (by decide)
                replace o12 := o12.adv hA (by decide)
                replace o13 := o13.adv hA (by decide)
                refine st hf rfl rfl (by decide) (r_assign hf rfl) fun a hf => ?_
                refine c_nt ?_
                refine c_retc ?_
                obtain rfl := Option.some.inj hF
                refine r_then ?_
                refine c_ret hf (res_ct Try.results65 ty28 hf rfl o3.cl rfl rfl) ?_
                exact ⟨_, rfl, hw.below, ⟨_, rfl, o13.out⟩⟩
              · refine c_iff hf rfl hb17 ?_
                refine c_skip ?_
                refine n_then ?_
                refine c_seq ?_
                refine c_region ?_
                refine st hf rfl rfl (by decide) (r_fa fa28_0 hf rfl) fun a hf => ?_
                refine st hf rfl rfl (by decide) (r_load_cell ty2 hf rfl (o1.cl.at_ 0 _ rfl)) fun a hf => ?_
                refine st hf rfl rfl (by decide) (r_indexAddr_arr Try.underlying89 sz2 hf rfl rfl (by decide) (by decide)) fun a hf => ?_
                refine st hf rfl rfl (by decide) (r_load_cell ty2 hf rfl (o8.cl.lens (Lens.vec 0 fI64 0 (by decide) (by decide)))) fun a hf => ?_
                refine st hf rfl rfl (by decide) (r_indexAddr_arr Try.underlying89 sz2 hf rfl rfl (by decide) (by decide)) fun a hf => ?_
                refine st hf rfl rfl (by decide) (r_load_cell ty2 hf rfl (o8.cl.lens (Lens.vec 0 fI64 1 (by decide) (by decide)))) fun a hf => ?_
                refine st hf rfl rfl (by decide) (r_indexAddr_arr Try.underlying89 sz2 hf rfl rfl (by decide) (by decide)) fun a hf => ?_
                refine st hf rfl rfl (by decide) (r_load_cell ty2 hf rfl (o8.cl.lens (Lens.vec 0 fI64 2 (by decide) (by decide)))) fun a hf => ?_
                have o14 : Ow (kf cProd) 78 ρ w w0.heap.size 14 (.slice none 0 0) [] := Ow.nil _ _ _ _ _ _
                refine st hf rfl rfl (by decide) (r_build_struct (pl := [(0, 1), (1, 1), (2, 1), (3, 1), (4, 1)]) (vs := [(0, .int .i64 a0.p), (1, .int .i64 (vg 0 (vs (#v[a0.n, a0.m, a0.k] : Vec3) a2 (w64 ((vg 0 (#v[a0.n, a0.m, a0.k] : Vec3) a2) + (vg 0 (#v[a1.n, a1.m, a1.k] : Vec3) a2)))) 0)), (2, .int .i64 (vg 0 (vs (#v[a0.n, a0.m, a0.k] : Vec3) a2 (w64 ((vg 0 (#v[a0.n, a0.m, a0.k] : Vec3) a2) + (vg 0 (#v[a1.n, a1.m, a1.k] : Vec3) a2)))) 1)), (3, .int .i64 (vg 0 (vs (#v[a0.n, a0.m, a0.k] : Vec3) a2 (w64 ((vg 0 (#v[a0.n, a0.m, a0.k] : Vec3) a2) + (vg 0 (#v[a1.n, a1.m, a1.k] : Vec3) a2)))) 2))]) (res := ([.int .i64 a0.p, .int .i64 (vg 0 (vs (#v[a0.n, a0.m, a0.k] : Vec3) a2 (w64 ((vg 0 (#v[a0.n, a0.m, a0.k] : Vec3) a2) + (vg 0 (#v[a1.n, a1.m, a1.k] : Vec3) a2)))) 0), .int .i64 (vg 0 (vs (#v[a0.n, a0.m, a0.k] : Vec3) a2 (w64 ((vg 0 (#v[a0.n, a0.m, a0.k] : Vec3) a2) + (vg 0 (#v[a1.n, a1.m, a1.k] : Vec3) a2)))) 1), .int .i64 (vg 0 (vs (#v[a0.n, a0.m, a0.k] : Vec3) a2 (w64 ((vg 0 (#v[a0.n, a0.m, a0.k] : Vec3) a2) + (vg 0 (#v[a1.n, a1.m, a1.k] : Vec3) a2)))) 2), (.slice none 0 0)]).toArray) Try.underlying28 (by kernel_rfl) ze28 hf rfl rfl ((fill_step (off := 0) (sz := 1) (cs := [.int .i64 0, .int .i64 0, .int .i64 0, .int .i64 0, .slice none 0 0]) rfl rfl rfl (Nat.le_of_ble_eq_true rfl)).trans ((fill_step (off := 1) (sz := 1) (cs := [.int .i64 a0.p, .int .i64 0, .int .i64 0, .int .i64 0, .slice none 0 0]) rfl rfl rfl (Nat.le_of_ble_eq_true rfl)).trans ((fill_step (off := 2) (sz := 1) (cs := [.int .i64 a0.p, .int .i64 (vg 0 (vs (#v[a0.n, a0.m, a0.k] : Vec3) a2 (w64 ((vg 0 (#v[a0.n, a0.m, a0.k] : Vec3) a2) + (vg 0 (#v[a1.n, a1.m, a1.k] : Vec3) a2)))) 0), .int .i64 0, .int .i64 0, .slice none 0 0]) rfl rfl rfl (Nat.le_of_ble_eq_true rfl)).trans ((fill_step (off := 3) (sz := 1) (cs := [.int .i64 a0.p, .int .i64 (vg 0 (vs (#v[a0.n, a0.m, a0.k] : Vec3) a2 (w64 ((vg 0 (#v[a0.n, a0.m, a0.k] : Vec3) a2) + (vg 0 (#v[a1.n, a1.m, a1.k] : Vec3) a2)))) 0), .int .i64 (vg 0 (vs (#v[a0.n, a0.m, a0.k] : Vec3) a2 (w64 ((vg 0 (#v[a0.n, a0.m, a0.k] : Vec3) a2) + (vg 0 (#v[a1.n, a1.m, a1.k] : Vec3) a2)))) 1), .int .i64 0, .slice none 0 0]) rfl rfl rfl (Nat.le_of_ble_eq_true rfl)).trans rfl))))) fun a hf => ?_
                have o16 : Ow (kf cProd) 78 ρ w w0.heap.size 16 (.slice none 0 0) [] := Ow.nil _ _ _ _ _ _
                refine st_ex hf rfl rfl (by decide) (r_alloc (cs := [.int .i64 0, .int .i64 0, .int .i64 0, .int .i64 0, (.slice none 0 0)]) 15 ze28 rfl hw) fun a v w hf hΦ => ?_
                obtain ⟨g15, ρ, rfl, hw, hE, o15⟩ := hΦ
                replace o1 := o1.ext hE
                replace o2 := o2.ext hE
                replace o3 := o3.ext hE
                replace o4 := o4.ext hE
                replace o8 := o8.ext hE
                replace o12 := o12.ext hE
                replace o14 := o14.ext hE
                replace o16 := o16.ext hE
                refine st_skip hf rfl rfl (r_store_w (cs' := [.int .i64 a0.p, .int .i64 (vg 0 (vs (#v[a0.n, a0.m, a0.k] : Vec3) a2 (w64 ((vg 0 (#v[a0.n, a0.m, a0.k] : Vec3) a2) + (vg 0 (#v[a1.n, a1.m, a1.k] : Vec3) a2)))) 0), .int .i64 (vg 0 (vs (#v[a0.n, a0.m, a0.k] : Vec3) a2 (w64 ((vg 0 (#v[a0.n, a0.m, a0.k] : Vec3) a2) + (vg 0 (#v[a1.n, a1.m, a1.k] : Vec3) a2)))) 1), .int .i64 (vg 0 (vs (#v[a0.n, a0.m, a0.k] : Vec3) a2 (w64 ((vg 0 (#v[a0.n, a0.m, a0.k] : Vec3) a2) + (vg 0 (#v[a1.n, a1.m, a1.k] : Vec3) a2)))) 2), (.slice none 0 0)]) hw o15 (by decide) ty28 rfl rfl (one_sch o14.ro.one) hf rfl rfl rfl) fun a w hf hΦ => ?_
                obtain ⟨hw, hA, o15⟩ := hΦ
                replace o1 := o1.adv hA (by decide)
                replace o2 := o2.adv hA (by decide)
                replace o3 := o3.adv hA (by decide)
                replace o4 := o4.adv hA (by decide)
                replace o8 := o8.adv hA (by decide)
                replace o12 := o12.adv hA (by decide)
                replace o14 := o14.adv hA (by decide)
                replace o16 := o16.adv hA (by decide)
                refine c_nt ?_
                refine c_seq ?_
                obtain ⟨x18, hx19, hF⟩ := of_bind hF
                replace hf : Fr 109 a [(3, .pointer (some ((⟨g1, 0, none⟩ : Addr).add 0))), (4, .pointer (some ((⟨g2, 0, none⟩ : Addr).add 0))), (6, .pointer (some ((⟨g3, 0, none⟩ : Addr).add 0))), (11, .pointer (some ((⟨g12, 0, none⟩ : Addr).add 0))), (12, .pointer (some ((⟨g15, 0, none⟩ : Addr).add 0)))] := hf.sub ⟨rfl, rfl, rfl, rfl, rfl, trivial⟩
                refine c_drawL (h := 11) mixed (by kernel_rfl) (by kernel_rfl) (fun ρ w => Va ρ w 1 g1 28 ([.int .i64 a0.p, .int .i64 a0.n, .int .i64 a0.m, .int .i64 a0.k, va0]) ∧ Va ρ w 2 g2 28 ([.int .i64 a1.p, .int .i64 a1.n, .int .i64 a1.m, .int .i64 a1.k, va1]) ∧ Va ρ w 3 g3 28 ([.int .i64 0, .int .i64 0, .int .i64 0, .int .i64 0, (.slice none 0 0)]) ∧ Ow (kf cProd) 78 ρ w w0.heap.size 4 (.slice none 0 0) ([] : List Prod) ∧ Va ρ w 12 g12 89 (cVec3.enc (vs zVec3 a2 (vg 0 (#v[a0.n, a0.m, a0.k] : Vec3) a2))) ∧ Ow (kf cProd) 78 ρ w w0.heap.size 14 (.slice none 0 0) ([] : List Prod) ∧ Va ρ w 15 g15 28 ([.int .i64 a0.p, .int .i64 (vg 0 (vs (#v[a0.n, a0.m, a0.k] : Vec3) a2 (w64 ((vg 0 (#v[a0.n, a0.m, a0.k] : Vec3) a2) + (vg 0 (#v[a1.n, a1.m, a1.k] : Vec3) a2)))) 0), .int .i64 (vg 0 (vs (#v[a0.n, a0.m, a0.k] : Vec3) a2 (w64 ((vg 0 (#v[a0.n, a0.m, a0.k] : Vec3) a2) + (vg 0 (#v[a1.n, a1.m, a1.k] : Vec3) a2)))) 1), .int .i64 (vg 0 (vs (#v[a0.n, a0.m, a0.k] : Vec3) a2 (w64 ((vg 0 (#v[a0.n, a0.m, a0.k] : Vec3) a2) + (vg 0 (#v[a1.n, a1.m, a1.k] : Vec3) a2)))) 2), (.slice none 0 0)])) ?_ [fun ρ w v => .agg ([.int .i64 a0.p, .int .i64 a0.n, .int .i64 a0.m, .int .i64 a0.k, va0]).toArray = v, fun ρ w v => .agg ([.int .i64 a0.p, .int .i64 (vg 0 (vs (#v[a0.n, a0.m, a0.k] : Vec3) a2 (w64 ((vg 0 (#v[a0.n, a0.m, a0.k] : Vec3) a2) + (vg 0 (#v[a1.n, a1.m, a1.k] : Vec3) a2)))) 0), .int .i64 (vg 0 (vs (#v[a0.n, a0.m, a0.k] : Vec3) a2 (w64 ((vg 0 (#v[a0.n, a0.m, a0.k] : Vec3) a2) + (vg 0 (#v[a1.n, a1.m, a1.k] : Vec3) a2)))) 1), .int .i64 (vg 0 (vs (#v[a0.n, a0.m, a0.k] : Vec3) a2 (w64 ((vg 0 (#v[a0.n, a0.m, a0.k] : Vec3) a2) + (vg 0 (#v[a1.n, a1.m, a1.k] : Vec3) a2)))) 2), (.slice none 0 0)]).toArray = v, fun ρ w v => ∃ u20, u20 = v ∧ Ow (kf cProd) 78 ρ w w0.heap.size 17 u20 x18, fun ρ w v => .agg ([.int .i64 a1.p, .int .i64 a1.n, .int .i64 a1.m, .int .i64 a1.k, va1]).toArray = v, fun ρ w v => .agg ([.int .i64 a0.p, .int .i64 (vg 0 (vs (#v[a0.n, a0.m, a0.k] : Vec3) a2 (w64 ((vg 0 (#v[a0.n, a0.m, a0.k] : Vec3) a2) + (vg 0 (#v[a1.n, a1.m, a1.k] : Vec3) a2)))) 0), .int .i64 (vg 0 (vs (#v[a0.n, a0.m, a0.k] : Vec3) a2 (w64 ((vg 0 (#v[a0.n, a0.m, a0.k] : Vec3) a2) + (vg 0 (#v[a1.n, a1.m, a1.k] : Vec3) a2)))) 1), .int .i64 (vg 0 (vs (#v[a0.n, a0.m, a0.k] : Vec3) a2 (w64 ((vg 0 (#v[a0.n, a0.m, a0.k] : Vec3) a2) + (vg 0 (#v[a1.n, a1.m, a1.k] : Vec3) a2)))) 2), (.slice none 0 0)]).toArray = v, fun ρ w v => .pointer (some ((⟨g12, 0, none⟩ : Addr).add (0 + (0 : Int).toNat * 1))) = v, fun ρ w v => .int .i64 (vg 0 (vs zVec3 a2 (vg 0 (#v[a0.n, a0.m, a0.k] : Vec3) a2)) 0) = v, fun ρ w v => .pointer (some ((⟨g12, 0, none⟩ : Addr).add (0 + (1 : Int).toNat * 1))) = v, fun ρ w v => .int .i64 (vg 0 (vs zVec3 a2 (vg 0 (#v[a0.n, a0.m, a0.k] : Vec3) a2)) 1) = v, fun ρ w v => .pointer (some ((⟨g12, 0, none⟩ : Addr).add (0 + (2 : Int).toNat * 1))) = v, fun ρ w v => .int .i64 (vg 0 (vs zVec3 a2 (vg 0 (#v[a0.n, a0.m, a0.k] : Vec3) a2)) 2) = v] ?_ hw ⟨o1, o2, o3, o4, o12, o14, o15⟩ hf ?_ ?_
                · intro ρ w ρ' w' hE hG
                  obtain ⟨o1, o2, o3, o4, o12, o14, o15⟩ := hG
                  exact ⟨o1.ext hE, o2.ext hE, o3.ext hE, o4.ext hE, o12.ext hE, o14.ext hE, o15.ext hE⟩
                · exact LastsL.cons (fun _ _ _ _ _ _ h => h) <| LastsL.cons (fun _ _ _ _ _ _ h => h) <| LastsL.cons (fun _ _ _ _ _ hE h => by obtain ⟨u20, h, o17⟩ := h; exact ⟨_, h, o17.ext hE⟩) <| LastsL.cons (fun _ _ _ _ _ _ h => h) <| LastsL.cons (fun _ _ _ _ _ _ h => h) <| LastsL.cons (fun _ _ _ _ _ _ h => h) <| LastsL.cons (fun _ _ _ _ _ _ h => h) <| LastsL.cons (fun _ _ _ _ _ _ h => h) <| LastsL.cons (fun _ _ _ _ _ _ h => h) <| LastsL.cons (fun _ _ _ _ _ _ h => h) <| LastsL.cons (fun _ _ _ _ _ _ h => h) <| LastsL.nil
                · refine StepsB.cons ?_ <| StepsB.cons ?_ <| StepsB.cons ?_ <| StepsB.cons ?_ <| StepsB.cons ?_ <| StepsB.cons ?_ <| StepsB.cons ?_ <| StepsB.cons ?_ <| StepsB.cons ?_ <| StepsB.cons ?_ <| StepsB.cons ?_ <| StepsB.nil
                  · intro ρ w a hw hG hf hd K hK
                    obtain ⟨o1, o2, o3, o4, o12, o14, o15⟩ := hG
                    exact d_val (R := fun ρ w v => .agg ([.int .i64 a0.p, .int .i64 a0.n, .int .i64 a0.m, .int .i64 a0.k, va0]).toArray = v) hw (wn rfl) (r_load_agg ty28 hf rfl o1.cl rfl) rfl rfl hK
                  · intro ρ w a hw hG hf hd K hK
                    obtain ⟨o1, o2, o3, o4, o12, o14, o15⟩ := hG
                    exact d_val (R := fun ρ w v => .agg ([.int .i64 a0.p, .int .i64 (vg 0 (vs (#v[a0.n, a0.m, a0.k] : Vec3) a2 (w64 ((vg 0 (#v[a0.n, a0.m, a0.k] : Vec3) a2) + (vg 0 (#v[a1.n, a1.m, a1.k] : Vec3) a2)))) 0), .int .i64 (vg 0 (vs (#v[a0.n, a0.m, a0.k] : Vec3) a2 (w64 ((vg 0 (#v[a0.n, a0.m, a0.k] : Vec3) a2) + (vg 0 (#v[a1.n, a1.m, a1.k] : Vec3) a2)))) 1), .int .i64 (vg 0 (vs (#v[a0.n, a0.m, a0.k] : Vec3) a2 (w64 ((vg 0 (#v[a0.n, a0.m, a0.k] : Vec3) a2) + (vg 0 (#v[a1.n, a1.m, a1.k] : Vec3) a2)))) 2), (.slice none 0 0)]).toArray = v) hw (wn rfl) (r_load_agg ty28 hf rfl o15.cl rfl) rfl rfl hK
                  · intro ρ w a hw hG hf hd K hK
                    obtain ⟨o1, o2, o3, o4, o12, o14, o15⟩ := hG
                    obtain ⟨_, ht, rfl⟩ := hd 0 (by kernel_rfl)
                    replace hf := hf.more ht
                    obtain ⟨_, ht, rfl⟩ := hd 1 (by kernel_rfl)
                    replace hf := hf.more ht
                    refine d_call (R := fun ρ w v => ∃ u20, u20 = v ∧ Ow (kf cProd) 78 ρ w w0.heap.size 17 u20 x18) hw (wn rfl) (r_fn en125 hf rfl) (impl_framed_ok (a0 := a0) (a1 := (⟨a0.p, vg 0 (vs (#v[a0.n, a0.m, a0.k] : Vec3) a2 (w64 ((vg 0 (#v[a0.n, a0.m, a0.k] : Vec3) a2) + (vg 0 (#v[a1.n, a1.m, a1.k] : Vec3) a2)))) 0, vg 0 (vs (#v[a0.n, a0.m, a0.k] : Vec3) a2 (w64 ((vg 0 (#v[a0.n, a0.m, a0.k] : Vec3) a2) + (vg 0 (#v[a1.n, a1.m, a1.k] : Vec3) a2)))) 1, vg 0 (vs (#v[a0.n, a0.m, a0.k] : Vec3) a2 (w64 ((vg 0 (#v[a0.n, a0.m, a0.k] : Vec3) a2) + (vg 0 (#v[a1.n, a1.m, a1.k] : Vec3) a2)))) 2, ([] : List Prod)⟩ : Sch)) (h0.now hw) o14.ro hx19) rfl (fun v w' hΦ => ?_) hK
                    obtain ⟨hb, hΦ⟩ := hΦ
                    obtain ⟨u20, rfl, hr21⟩ := hΦ
                    have hE := Ext.new (ρ := ρ) 17 hb
                    have o17 := Fresh.own (ρ := ρ) (B := w0.heap.size) hr21 hw.below.size 17
                    exact ⟨_, hw.new 17 hb, hE, _, rfl, o17⟩
                  · intro ρ w a hw hG hf hd K hK
                    obtain ⟨o1, o2, o3, o4, o12, o14, o15⟩ := hG
                    exact d_val (R := fun ρ w v => .agg ([.int .i64 a1.p, .int .i64 a1.n, .int .i64 a1.m, .int .i64 a1.k, va1]).toArray = v) hw (wn rfl) (r_load_agg ty28 hf rfl o2.cl rfl) rfl rfl hK
                  · intro ρ w a hw hG hf hd K hK
                    obtain ⟨o1, o2, o3, o4, o12, o14, o15⟩ := hG
                    exact d_val (R := fun ρ w v => .agg ([.int .i64 a0.p, .int .i64 (vg 0 (vs (#v[a0.n, a0.m, a0.k] : Vec3) a2 (w64 ((vg 0 (#v[a0.n, a0.m, a0.k] : Vec3) a2) + (vg 0 (#v[a1.n, a1.m, a1.k] : Vec3) a2)))) 0), .int .i64 (vg 0 (vs (#v[a0.n, a0.m, a0.k] : Vec3) a2 (w64 ((vg 0 (#v[a0.n, a0.m, a0.k] : Vec3) a2) + (vg 0 (#v[a1.n, a1.m, a1.k] : Vec3) a2)))) 1), .int .i64 (vg 0 (vs (#v[a0.n, a0.m, a0.k] : Vec3) a2 (w64 ((vg 0 (#v[a0.n, a0.m, a0.k] : Vec3) a2) + (vg 0 (#v[a1.n, a1.m, a1.k] : Vec3) a2)))) 2), (.slice none 0 0)]).toArray = v) hw (wn rfl) (r_load_agg ty28 hf rfl o15.cl rfl) rfl rfl hK
                  · intro ρ w a hw hG hf hd K hK
                    obtain ⟨o1, o2, o3, o4, o12, o14, o15⟩ := hG
                    exact d_val (R := fun ρ w v => .pointer (some ((⟨g12, 0, none⟩ : Addr).add (0 + (0 : Int).toNat * 1))) = v) hw (wn rfl) (r_indexAddr_arr Try.underlying89 sz2 hf rfl rfl (by decide) (by decide)) rfl rfl hK
                  · intro ρ w a hw hG hf hd K hK
                    obtain ⟨o1, o2, o3, o4, o12, o14, o15⟩ := hG
                    obtain ⟨_, ht, rfl⟩ := hd 5 (by kernel_rfl)
                    replace hf := hf.more ht
                    exact d_val (R := fun ρ w v => .int .i64 (vg 0 (vs zVec3 a2 (vg 0 (#v[a0.n, a0.m, a0.k] : Vec3) a2)) 0) = v) hw (wn rfl) (r_load_cell ty2 hf rfl (o12.cl.lens (Lens.vec 0 fI64 0 (by decide) (by decide)))) rfl rfl hK
                  · intro ρ w a hw hG hf hd K hK
                    obtain ⟨o1, o2, o3, o4, o12, o14, o15⟩ := hG
                    exact d_val (R := fun ρ w v => .pointer (some ((⟨g12, 0, none⟩ : Addr).add (0 + (1 : Int).toNat * 1))) = v) hw (wn rfl) (r_indexAddr_arr Try.underlying89 sz2 hf rfl rfl (by decide) (by decide)) rfl rfl hK
                  · intro ρ w a hw hG hf hd K hK
                    obtain ⟨o1, o2, o3, o4, o12, o14, o15⟩ := hG
                    obtain ⟨_, ht, rfl⟩ := hd 7 (by kernel_rfl)
                    replace hf := hf.more ht
                    exact d_val (R := fun ρ w v => .int .i64 (vg 0 (vs zVec3 a2 (vg 0 (#v[a0.n, a0.m, a0.k] : Vec3) a2)) 1) = v) hw (wn rfl) (r_load_cell ty2 hf rfl (o12.cl.lens (Lens.vec 0 fI64 1 (by decide) (by decide)))) rfl rfl hK
                  · intro ρ w a hw hG hf hd K hK
                    obtain ⟨o1, o2, o3, o4, o12, o14, o15⟩ := hG
                    exact d_val (R := fun ρ w v => .pointer (some ((⟨g12, 0, none⟩ : Addr).add (0 + (2 : Int).toNat * 1))) = v) hw (wn rfl) (r_indexAddr_arr Try.underlying89 sz2 hf rfl rfl (by decide) (by decide)) rfl rfl hK
                  · intro ρ w a hw hG hf hd K hK
                    obtain ⟨o1, o2, o3, o4, o12, o14, o15⟩ := hG
                    obtain ⟨_, ht, rfl⟩ := hd 9 (by kernel_rfl)
                    replace hf := hf.more ht
                    exact d_val (R := fun ρ w v => .int .i64 (vg 0 (vs zVec3 a2 (vg 0 (#v[a0.n, a0.m, a0.k] : Vec3) a2)) 2) = v) hw (wn rfl) (r_load_cell ty2 hf rfl (o12.cl.lens (Lens.vec 0 fI64 2 (by decide) (by decide)))) rfl rfl hK
                · intro ρ w a hw hG hf hd
                  obtain ⟨o1, o2, o3, o4, o12, o14, o15⟩ := hG
                  replace hf : Fr 109 a [(3, .pointer (some ((⟨g1, 0, none⟩ : Addr).add 0))), (4, .pointer (some ((⟨g2, 0, none⟩ : Addr).add 0))), (6, .pointer (some ((⟨g3, 0, none⟩ : Addr).add 0))), (11, .pointer (some ((⟨g12, 0, none⟩ : Addr).add 0))), (12, .pointer (some ((⟨g15, 0, none⟩ : Addr).add 0)))] := hf
                  obtain ⟨_, ht, ⟨u20, rfl, o17⟩⟩ := hd 2 (by decide)
                  replace hf := hf.more ht
                  obtain ⟨_, ht, rfl⟩ := hd 3 (by decide)
                  replace hf := hf.more ht
                  obtain ⟨_, ht, rfl⟩ := hd 4 (by decide)
                  replace hf := hf.more ht
                  obtain ⟨_, ht, rfl⟩ := hd 6 (by decide)
                  replace hf := hf.more ht
                  obtain ⟨_, ht, rfl⟩ := hd 8 (by decide)
                  replace hf := hf.more ht
                  obtain ⟨_, ht, rfl⟩ := hd 10 (by decide)
                  replace hf := hf.more ht
                  obtain ⟨x22, hx23, hF⟩ := of_bind hF
                  refine st_fn 18 hw hf rfl rfl (by decide) (r_fn en125 hf rfl) (impl_framed_ok (a0 := a1) (a1 := (⟨a0.p, vg 0 (vs (#v[a0.n, a0.m, a0.k] : Vec3) a2 (w64 ((vg 0 (#v[a0.n, a0.m, a0.k] : Vec3) a2) + (vg 0 (#v[a1.n, a1.m, a1.k] : Vec3) a2)))) 0, vg 0 (vs (#v[a0.n, a0.m, a0.k] : Vec3) a2 (w64 ((vg 0 (#v[a0.n, a0.m, a0.k] : Vec3) a2) + (vg 0 (#v[a1.n, a1.m, a1.k] : Vec3) a2)))) 1, vg 0 (vs (#v[a0.n, a0.m, a0.k] : Vec3) a2 (w64 ((vg 0 (#v[a0.n, a0.m, a0.k] : Vec3) a2) + (vg 0 (#v[a1.n, a1.m, a1.k] : Vec3) a2)))) 2, ([] : List Prod)⟩ : Sch)) (h1.now hw) o14.ro hx23) fun a v w ρ hf hw hE hN hΦ => ?_
                  obtain ⟨u24, rfl, hr25⟩ := hΦ
                  replace o1 := o1.ext hE
                  replace o2 := o2.ext hE
                  replace o3 := o3.ext hE
                  replace o4 := o4.ext hE
                  replace o12 := o12.ext hE
                  replace o14 := o14.ext hE
                  replace o15 := o15.ext hE
                  replace o17 := o17.ext hE
                  have o18 := hN hr25
                  obtain ⟨hc26, hF⟩ := of_guard hF
                  refine st_ex hf rfl rfl (by decide) (r_append Try.underlying26 el78 hw (by decide) o17 o18.ro hc26 hf rfl rfl) fun a va27 w hf hΦ => ?_
                  obtain ⟨ρ, hw, hA, o17⟩ := hΦ
                  replace o1 := o1.adv hA (by decide)
                  replace o2 := o2.adv hA (by decide)
                  replace o3 := o3.adv hA (by decide)
                  replace o4 := o4.adv hA (by decide)
                  replace o12 := o12.adv hA (by decide)
                  replace o14 := o14.adv hA (by decide)
                  replace o15 := o15.adv hA (by decide)
                  replace o18 := o18.adv hA (by decide)
                  refine st hf rfl rfl (by decide) (r_fa fa28_4 hf rfl) fun a hf => ?_
                  refine st_skip hf rfl rfl (r_store_c hw o15 (by decide) ty26 (Nat.le_of_ble_eq_true rfl) hf rfl rfl o17.ro.cells1 o17.ro.one) fun a w hf hΦ => ?_
                  obtain ⟨hw, hA, o15⟩ := hΦ
                  replace o1 := o1.adv hA (by decide)
                  replace o2 := o2.adv hA (by decide)
                  replace o3 := o3.adv hA (by decide)
                  replace o4 := o4.adv hA (by decide)
                  replace o12 := o12.adv hA (by decide)
                  replace o14 := o14.adv hA (by decide)
                  replace o17 := o17.adv hA (by decide)
                  replace o18 := o18.adv hA (by decide)
                  replace o15 : Va ρ w 15 g15 28 ([.int .i64 a0.p, .int .i64 (vg 0 (vs (#v[a0.n, a0.m, a0.k] : Vec3) a2 (w64 ((vg 0 (#v[a0.n, a0.m, a0.k] : Vec3) a2) + (vg 0 (#v[a1.n, a1.m, a1.k] : Vec3) a2)))) 0), .int .i64 (vg 0 (vs (#v[a0.n, a0.m, a0.k] : Vec3) a2 (w64 ((vg 0 (#v[a0.n, a0.m, a0.k] : Vec3) a2) + (vg 0 (#v[a1.n, a1.m, a1.k] : Vec3) a2)))) 1), .int .i64 (vg 0 (vs (#v[a0.n, a0.m, a0.k] : Vec3) a2 (w64 ((vg 0 (#v[a0.n, a0.m, a0.k] : Vec3) a2) + (vg 0 (#v[a1.n, a1.m, a1.k] : Vec3) a2)))) 2), va27]) := o15
                  refine c_nt ?_
                  refine c_seq ?_
                  refine c_region ?_
                  refine st hf rfl rfl (by decide) (r_load_agg ty28 hf rfl o15.cl rfl) fun a hf => ?_
                  refine st_skip hf rfl rfl (r_store_w (cs' := [.int .i64 a0.p, .int .i64 (vg 0 (vs (#v[a0.n, a0.m, a0.k] : Vec3) a2 (w64 ((vg 0 (#v[a0.n, a0.m, a0.k] : Vec3) a2) + (vg 0 (#v[a1.n, a1.m, a1.k] : Vec3) a2)))) 0), .int .i64 (vg 0 (vs (#v[a0.n, a0.m, a0.k] : Vec3) a2 (w64 ((vg 0 (#v[a0.n, a0.m, a0.k] : Vec3) a2) + (vg 0 (#v[a1.n, a1.m, a1.k] : Vec3) a2)))) 1), .int .i64 (vg 0 (vs (#v[a0.n, a0.m, a0.k] : Vec3) a2 (w64 ((vg 0 (#v[a0.n, a0.m, a0.k] : Vec3) a2) + (vg 0 (#v[a1.n, a1.m, a1.k] : Vec3) a2)))) 2), va27]) hw o3 (by decide) ty28 rfl rfl (one_sch o17.ro.one) hf rfl rfl rfl) fun a w hf hΦ => ?_
                  obtain ⟨hw, hA, o3⟩ := hΦ
                  replace o1 := o1.adv hA (by decide)
                  replace o2 := o2.adv hA (by decide)
                  replace o4 := o4.adv hA (by decide)
                  replace o12 := o12.adv hA (by decide)
                  replace o14 := o14.adv hA (by decide)
                  replace o15 := o15.adv hA (by decide)
                  replace o17 := o17.adv hA (by decide)
                  replace o18 := o18.adv hA (by decide)
                  refine st hf rfl rfl (by decide) (r_assign hf rfl) fun a hf => ?_
                  refine c_nt ?_
                  refine c_retc ?_
                  obtain rfl := Option.some.inj hF
                  refine c_ret hf (res_ct Try.results65 ty28 hf rfl o3.cl rfl rfl) ?_
                  exact ⟨_, rfl, hw.below, ⟨_, rfl, o17.out⟩⟩
/-! f73 -/
noncomputable def spec_l03Told_l5 (a1 : List Prod) (s6 : Int) (s7 : List Prod) : Option (LR (Int × (List Prod)) Sch) :=
  if (decide (s6 < (a1.length : Int))) = true then (if 0 ≤ s6 ∧ s6 < (a1.length : Int) then (((spec_l01Zero ((gl zProd a1 s6).1)).bind fun x14 => if (!x14) = true then ((spec_l01Zero ((gl zProd a1 s6).2.1)).bind fun x17 => if (!x17) = true then ((spec_l01Zero ((gl zProd a1 s6).2.2)).bind fun x20 => some (!x20)) else (some false)) else (some false)).bind fun (s13 : Bool) => if s13 = true then (if (s7.length + ([gl zProd a1 s6]).length) * 27 ≤ 140737488355328 then (some (.next (w64 (s6 + 1), (s7 ++ [gl zProd a1 s6])))) else none) else (some (.next (w64 (s6 + 1), s7)))) else none) else (some (.stop (s6, s7)))
noncomputable def spec_l03Told (a0 : Sch) (a1 : List Prod) : Option Sch :=
  (spec_l01Empty a0).bind fun x1 => (iter (fun s => spec_l03Told_l5 a1 s.1 s.2) (0, x1.ps)).bind fun o => match o with | .stop (s6, s7) => (some ((⟨x1.p, x1.n, x1.m, x1.k, s7⟩ : Sch))) | .ret r => some r | .next _ => none
theorem spec_l03Told_ok {w0 : World} {a0 : Sch} {a1 : List Prod} {va0 : Value} {va1 : Value} (h0 : Ro (kf cProd) w0 va0 a0.ps) (h1 : Ro (kf cProd) w0 va1 a1) {r : Sch} (hF : spec_l03Told a0 a1 = some r) :
    Calls Try.prog 73 [.agg ([.int .i64 a0.p, .int .i64 a0.n, .int .i64 a0.m, .int .i64 a0.k, va0]).toArray, va1].toArray w0 fun e w => ∃ v, e = .returned v ∧ Below w0.heap.size w0 w ∧ ∃ u0, .agg [.int .i64 r.p, .int .i64 r.n, .int .i64 r.m, .int .i64 r.k, u0].toArray = v ∧ Fresh (kf cProd) 78 w0 w u0 r.ps := by
  refine calls_of (k := 43) Try.func73 rfl rfl (Nat.le_of_ble_eq_true rfl) fun a hf => ?_
  replace hf : Fr 43 a [(0, .agg ([.int .i64 a0.p, .int .i64 a0.n, .int .i64 a0.m, .int .i64 a0.k, va0]).toArray), (1, va1)] := hf
  refine c_start fun w ρ hw => ?_
  unfold spec_l03Told at hF
  refine c_seq ?_
  refine c_region ?_
  refine st_ex hf rfl rfl (by decide) (r_box (cs := [.int .i64 a0.p, .int .i64 a0.n, .int .i64 a0.m, .int .i64 a0.k, va0]) 1 hw hf rfl rfl) fun a v w hf hΦ => ?_
  obtain ⟨g1, ρ, rfl, hw, hE, o1⟩ := hΦ
  have o3 : Ow (kf cProd) 78 ρ w w0.heap.size 3 (.slice none 0 0) [] := Ow.nil _ _ _ _ _ _
  refine st_ex hf rfl rfl (by decide) (r_alloc (cs := [.int .i64 0, .int .i64 0, .int .i64 0, .int .i64 0, (.slice none 0 0)]) 2 ze28 rfl hw) fun a v w hf hΦ => ?_
  obtain ⟨g2, ρ, rfl, hw, hE, o2⟩ := hΦ
  replace o1 := o1.ext hE
  replace o3 := o3.ext hE
  refine c_nt ?_
  refine c_seq ?_
  refine c_region ?_
  refine st hf rfl rfl (by decide) (r_load_agg ty28 hf rfl o1.cl rfl) fun a hf => ?_
  obtain ⟨x1, hx2, hF⟩ := of_bind hF
  refine st_fn 4 hw hf rfl rfl (by decide) (r_fn en130 hf rfl) (spec_l01Empty_ok (a0 := a0) (h0.now hw) hx2) fun a v w ρ hf hw hE hN hΦ => ?_
  obtain ⟨u3, rfl, hr4⟩ := hΦ
  replace o1 := o1.ext hE
  replace o3 := o3.ext hE
  replace o2 := o2.ext hE
  have o4 := hN hr4
  have o6 : Ow (kf cProd) 78 ρ w w0.heap.size 6 (.slice none 0 0) [] := Ow.nil _ _ _ _ _ _
  refine st_ex hf rfl rfl (by decide) (r_alloc (cs := [.int .i64 0, .int .i64 0, .int .i64 0, .int .i64 0, (.slice none 0 0)]) 5 ze28 rfl hw) fun a v w hf hΦ => ?_
  obtain ⟨g5, ρ, rfl, hw, hE, o5⟩ := hΦ
  replace o1 := o1.ext hE
  replace o3 := o3.ext hE
  replace o2 := o2.ext hE
  replace o4 := o4.ext hE
  replace o6 := o6.ext hE
  refine st_skip hf rfl rfl (r_store_w (cs' := [.int .i64 x1.p, .int .i64 x1.n, .int .i64 x1.m, .int .i64 x1.k, u3]) hw o5 (by decide) ty28 rfl rfl (one_sch o4.ro.one) hf rfl rfl rfl) fun a w hf hΦ => ?_
  obtain ⟨hw, hA, o5⟩ := hΦ
  replace o1 := o1.adv hA (by decide)
  replace o3 := o3.adv hA (by decide)
  replace o2 := o2.adv hA (by decide)
  replace o4 := o4.adv hA (by decide)
  replace o6 := o6.adv hA (by decide)
  refine c_nt ?_
  refine c_seq ?_
  refine c_seq ?_
  refine c_region ?_
  refine st hf rfl rfl (by decide) (r_assign hf rfl) fun a hf => ?_
  refine c_nt ?_
  obtain ⟨ol5, ho5, hG5⟩ := of_bind hF
  clear hF
  refine c_block (c_loop (id := 0) (fun s => spec_l03Told_l5 a1 s.1 s.2) (fun (s : Int × (List Prod)) a w => ∃ ρ v8, Wd w0 ρ w ∧ Fr 43 a [(1, va1), (4, .pointer (some ((⟨g2, 0, none⟩ : Addr).add 0))), (5, .pointer (some ((⟨g5, 0, none⟩ : Addr).add 0))), (6, .int .i64 s.1)] ∧ Va ρ w 2 g2 28 ([.int .i64 0, .int .i64 0, .int .i64 0, .int .i64 0, (.slice none 0 0)]) ∧ Ow (kf cProd) 78 ρ w w0.heap.size 3 (.slice none 0 0) ([] : List Prod) ∧ Ow (kf cProd) 78 ρ w w0.heap.size 4 v8 s.2 ∧ Va ρ w 5 g5 28 ([.int .i64 x1.p, .int .i64 x1.n, .int .i64 x1.m, .int .i64 x1.k, v8])) (fun (s : Int × (List Prod)) a w => ∃ ρ v8, Wd w0 ρ w ∧ Fr 43 a [(4, .pointer (some ((⟨g2, 0, none⟩ : Addr).add 0))), (5, .pointer (some ((⟨g5, 0, none⟩ : Addr).add 0)))] ∧ Va ρ w 2 g2 28 ([.int .i64 0, .int .i64 0, .int .i64 0, .int .i64 0, (.slice none 0 0)]) ∧ Ow (kf cProd) 78 ρ w w0.heap.size 3 (.slice none 0 0) ([] : List Prod) ∧ Ow (kf cProd) 78 ρ w w0.heap.size 4 v8 s.2 ∧ Va ρ w 5 g5 28 ([.int .i64 x1.p, .int .i64 x1.n, .int .i64 x1.m, .int .i64 x1.k, v8])) ho5 ⟨_, _, hw, hf.sub ⟨rfl, rfl, rfl, rfl, trivial⟩, o2, o3, o4, o5⟩ ?_ ?_)
  · rintro ⟨s6, s7⟩ lr a w ⟨ρ, v8, hw, hf, o2, o3, o4, o5⟩ hF
    replace hf : Fr 43 a [(1, va1), (4, .pointer (some ((⟨g2, 0, none⟩ : Addr).add 0))), (5, .pointer (some ((⟨g5, 0, none⟩ : Addr).add 0))), (6, .int .i64 s6)] := hf
    replace o2 : Va ρ w 2 g2 28 ([.int .i64 0, .int .i64 0, .int .i64 0, .int .i64 0, (.slice none 0 0)]) := o2
    replace o3 : Ow (kf cProd) 78 ρ w w0.heap.size 3 (.slice none 0 0) ([] : List Prod) := o3
    replace o4 : Ow (kf cProd) 78 ρ w w0.heap.size 4 v8 s7 := o4
    replace o5 : Va ρ w 5 g5 28 ([.int .i64 x1.p, .int .i64 x1.n, .int .i64 x1.m, .int .i64 x1.k, v8]) := o5
    replace hF : spec_l03Told_l5 a1 s6 s7 = some lr := hF
    unfold spec_l03Told_l5 at hF
    refine c_seq ?_
    refine c_seq ?_
    refine c_region ?_
    refine st hf rfl rfl (by decide) (r_move hf rfl) fun a hf => ?_
    refine st hf rfl rfl (by decide) (r_move hf rfl) fun a hf => ?_
    refine st hf rfl rfl (by decide) (r_len Try.underlying26 (h1.now hw) hf rfl) fun a hf => ?_
    refine st hf rfl rfl (by decide) (r_lss hf rfl rfl) fun a hf => ?_
    refine c_nt ?_
    rcases of_ite hF with ⟨hb9, hF⟩ | ⟨hb9, hF⟩
    · refine c_ift hf rfl hb9 ?_
      refine c_skip ?_
      refine n_then ?_
      refine c_seq ?_
      refine c_block ?_
      refine c_seq ?_
      refine c_region ?_
      refine st hf rfl rfl (by decide) (r_move hf rfl) fun a hf => ?_
      refine st hf rfl rfl (by decide) (r_move hf rfl) fun a hf => ?_
      obtain ⟨hc10, hF⟩ := of_guard hF
      obtain ⟨ad11, c11, he11, hl11⟩ := Ro.el cProd h1 zProd hc10.1 hc10.2
      refine st hf rfl rfl (by decide) (r_idx Try.underlying26 sz78 hf rfl ⟨_, he11⟩ rfl hc10.1 hc10.2) fun a hf => ?_
      refine st hf rfl rfl (by decide) (r_load_agg ty78 hf rfl (hl11.below hw.below) (cProd.len _)) fun a hf => ?_
      refine st_ex hf rfl rfl (by decide) (r_alloc (cs := cProd.enc zProd) 7 ze78 rfl hw) fun a v w hf hΦ => ?_
      obtain ⟨g7, ρ, rfl, hw, hE, o7⟩ := hΦ
      replace o2 := o2.ext hE
      replace o3 := o3.ext hE
      replace o4 := o4.ext hE
      replace o5 := o5.ext hE
      refine st_skip hf rfl rfl (r_store_w (cs' := cProd.enc (gl zProd a1 s6)) hw o7 (by decide) ty78 (cProd.len _) (cProd.len _) (cProd.one _) hf rfl rfl rfl) fun a w hf hΦ => ?_
      obtain ⟨hw, hA, o7⟩ := hΦ
      replace o2 := o2.adv hA (by decide)
      replace o3 := o3.adv hA (by decide)
      replace o4 := o4.adv hA (by decide)
      replace o5 := o5.adv hA (by decide)
      refine c_nt ?_
      refine c_seq ?_
      obtain ⟨s13, hT12, hG12⟩ := of_bind hF
      clear hF
      refine c_meet (fun (s : Bool) a w => ∃ ρ, Wd w0 ρ w ∧ Fr 43 a [(1, va1), (4, .pointer (some ((⟨g2, 0, none⟩ : Addr).add 0))), (5, .pointer (some ((⟨g5, 0, none⟩ : Addr).add 0))), (6, .int .i64 s6), (7, .pointer (some ((⟨g7, 0, none⟩ : Addr).add 0))), (35, .bool s)] ∧ Va ρ w 2 g2 28 ([.int .i64 0, .int .i64 0, .int .i64 0, .int .i64 0, (.slice none 0 0)]) ∧ Ow (kf cProd) 78 ρ w w0.heap.size 3 (.slice none 0 0) ([] : List Prod) ∧ Ow (kf cProd) 78 ρ w w0.heap.size 4 v8 s7 ∧ Va ρ w 5 g5 28 ([.int .i64 x1.p, .int .i64 x1.n, .int .i64 x1.m, .int .i64 x1.k, v8]) ∧ Va ρ w 7 g7 78 (cProd.enc (gl zProd a1 s6))) s13 ?_ ?_
      · have hF := hT12
        refine c_region ?_
        refine st hf rfl rfl (by decide) (r_fa fa78_0 hf rfl) fun a hf => ?_
        refine st hf rfl rfl (by decide) (r_load_agg ty39 hf rfl (o7.cl.lens lProd_0) (cForm.len _)) fun a hf => ?_
        obtain ⟨x14, hx15, hF⟩ := of_bind hF
        refine st_fn 8 hw hf rfl rfl (by decide) (r_fn en83 hf rfl) (spec_l01Zero_ok  hx15) fun a v w ρ hf hw hE hN hΦ => ?_
        obtain rfl := hΦ
        replace o2 := o2.ext hE
        replace o3 := o3.ext hE
        replace o4 := o4.ext hE
        replace o5 := o5.ext hE
        replace o7 := o7.ext hE
        refine st hf rfl rfl (by decide) (r_not hf rfl) fun a hf => ?_
        refine st hf rfl rfl (by decide) (r_move hf rfl) fun a hf => ?_
        rcases of_ite hF with ⟨hb16, hF⟩ | ⟨hb16, hF⟩
        · refine st_g (b := true) hf rfl rfl rfl hb16 rfl (by decide) (r_fa fa78_1 hf rfl) fun a hf => ?_
          refine st_g (b := true) hf rfl rfl rfl hb16 rfl (by decide) (r_load_agg ty39 hf rfl (o7.cl.lens lProd_1) (cForm.len _)) fun a hf => ?_
          obtain ⟨x17, hx18, hF⟩ := of_bind hF
          refine st_gfn (b := true) 9 hw hf rfl rfl rfl hb16 rfl (by decide) (r_fn en83 hf rfl) (spec_l01Zero_ok  hx18) fun a v w ρ hf hw hE hN hΦ => ?_
          obtain rfl := hΦ
          replace o2 := o2.ext hE
          replace o3 := o3.ext hE
          replace o4 := o4.ext hE
          replace o5 := o5.ext hE
          replace o7 := o7.ext hE
          refine st_g (b := true) hf rfl rfl rfl hb16 rfl (by decide) (r_not hf rfl) fun a hf => ?_
          refine st hf rfl rfl (by decide) (r_pick (b := true) hf rfl hb16 rfl) fun a hf => ?_
          refine st hf rfl rfl (by decide) (r_move hf rfl) fun a hf => ?_
          rcases of_ite hF with ⟨hb19, hF⟩ | ⟨hb19, hF⟩
          · refine st_g (b := true) hf rfl rfl rfl hb19 rfl (by decide) (r_fa fa78_2 hf rfl) fun a hf => ?_
            refine st_g (b := true) hf rfl rfl rfl hb19 rfl (by decide) (r_load_agg ty39 hf rfl (o7.cl.lens lProd_2) (cForm.len _)) fun a hf => ?_
            obtain ⟨x20, hx21, hF⟩ := of_bind hF
            refine st_gfn (b := true) 10 hw hf rfl rfl rfl hb19 rfl (by decide) (r_fn en83 hf rfl) (spec_l01Zero_ok  hx21) fun a v w ρ hf hw hE hN hΦ => ?_
            obtain rfl := hΦ
            replace o2 := o2.ext hE
            replace o3 := o3.ext hE
            replace o4 := o4.ext hE
            replace o5 := o5.ext hE
            replace o7 := o7.ext hE
            refine st_g (b := true) hf rfl rfl rfl hb19 rfl (by decide) (r_not hf rfl) fun a hf => ?_
            refine st hf rfl rfl (by decide) (r_pick (b := true) hf rfl hb19 rfl) fun a hf => ?_
            refine c_nil ⟨rfl, ?_⟩
            obtain rfl := Option.some.inj hF
            exact ⟨_, hw, hf.sub ⟨rfl, rfl, rfl, rfl, rfl, rfl, trivial⟩, o2, o3, o4, o5, o7⟩
          · refine st_no (b := false) hf rfl rfl rfl hb19 rfl (by decide) fun a hf => ?_
            refine st_no (b := false) hf rfl rfl rfl hb19 rfl (by decide) fun a hf => ?_
            refine st_no (b := false) hf rfl rfl rfl hb19 rfl (by decide) fun a hf => ?_
            refine st_no (b := false) hf rfl rfl rfl hb19 rfl (by decide) fun a hf => ?_
            refine st hf rfl rfl (by decide) (r_pick (b := false) hf rfl hb19 rfl) fun a hf => ?_
            refine c_nil ⟨rfl, ?_⟩
            obtain rfl := Option.some.inj hF
            exact ⟨_, hw, hf.sub ⟨rfl, rfl, rfl, rfl, rfl, rfl, trivial⟩, o2, o3, o4, o5, o7⟩
        · refine st_no (b := false) hf rfl rfl rfl hb16 rfl (by decide) fun a hf => ?_
          refine st_no (b := false) hf rfl rfl rfl hb16 rfl (by decide) fun a hf => ?_
          refine st_no (b := false) hf rfl rfl rfl hb16 rfl (by decide) fun a hf => ?_
          refine st_no (b := false) hf rfl rfl rfl hb16 rfl (by decide) fun a hf => ?_
          refine st hf rfl rfl (by decide) (r_pick (b := false) hf rfl hb16 rfl) fun a hf => ?_
          refine st hf rfl rfl (by decide) (r_move hf rfl) fun a hf => ?_
          refine st_no (b := false) hf rfl rfl rfl rfl rfl (by decide) fun a hf => ?_
          refine st_no (b := false) hf rfl rfl rfl rfl rfl (by decide) fun a hf => ?_
          refine st_no (b := false) hf rfl rfl rfl rfl rfl (by decide) fun a hf => ?_
          refine st_no (b := false) hf rfl rfl rfl rfl rfl (by decide) fun a hf => ?_
          refine st hf rfl rfl (by decide) (r_pick (b := false) hf rfl rfl rfl) fun a hf => ?_
          refine c_nil ⟨rfl, ?_⟩
          obtain rfl := Option.some.inj hF
          exact ⟨_, hw, hf.sub ⟨rfl, rfl, rfl, rfl, rfl, rfl, trivial⟩, o2, o3, o4, o5, o7⟩
      · rintro a w ⟨ρ, hw, hf, o2, o3, o4, o5, o7⟩
        replace hf : Fr 43 a [(1, va1), (4, .pointer (some ((⟨g2, 0, none⟩ : Addr).add 0))), (5, .pointer (some ((⟨g5, 0, none⟩ : Addr).add 0))), (6, .int .i64 s6), (7, .pointer (some ((⟨g7, 0, none⟩ : Addr).add 0))), (35, .bool s13)] := hf
        replace o2 : Va ρ w 2 g2 28 ([.int .i64 0, .int .i64 0, .int .i64 0, .int .i64 0, (.slice none 0 0)]) := o2
        replace o3 : Ow (kf cProd) 78 ρ w w0.heap.size 3 (.slice none 0 0) ([] : List Prod) := o3
        replace o4 : Ow (kf cProd) 78 ρ w w0.heap.size 4 v8 s7 := o4
        replace o5 : Va ρ w 5 g5 28 ([.int .i64 x1.p, .int .i64 x1.n, .int .i64 x1.m, .int .i64 x1.k, v8]) := o5
        replace o7 : Va ρ w 7 g7 78 (cProd.enc (gl zProd a1 s6)) := o7
        have hF := hG12
        refine n_then ?_
        rcases of_ite hF with ⟨hb22, hF⟩ | ⟨hb22, hF⟩
        · refine c_ift hf rfl hb22 ?_
          refine c_region ?_
          refine st hf rfl rfl (by decide) (r_fa fa28_4 hf rfl) fun a hf => ?_
          refine st hf rfl rfl (by decide) (r_load_cell ty26 hf rfl (o5.cl.at_ 4 _ rfl)) fun a hf => ?_
          refine st hf rfl rfl (by decide) (r_load_agg ty78 hf rfl o7.cl (cProd.len _)) fun a hf => ?_
          refine st_ex hf rfl rfl (by decide) (r_lit (d := cProd) (xs := ([gl zProd a1 s6] : List Prod)) (vs := [.agg (cProd.enc (gl zProd a1 s6)).toArray]) 11 Try.underlying26 el78 (Nat.le_of_ble_eq_true rfl) (Nat.le_of_ble_eq_true rfl) hw hf rfl rfl rfl) fun a v11 w hf hΦ => ?_
          obtain ⟨ρ, hw, hE, o11⟩ := hΦ
          replace o2 := o2.ext hE
          replace o3 := o3.ext hE
          replace o4 := o4.ext hE
          replace o5 := o5.ext hE
          replace o7 := o7.ext hE
          obtain ⟨hc23, hF⟩ := of_guard hF
          refine st_ex hf rfl rfl (by decide) (r_append Try.underlying26 el78 hw (by decide) o4 o11.ro hc23 hf rfl rfl) fun a va24 w hf hΦ => ?_
          obtain ⟨ρ, hw, hA, o4⟩ := hΦ
          replace o2 := o2.adv hA (by decide)
          replace o3 := o3.adv hA (by decide)
          replace o5 := o5.adv hA (by decide)
          replace o7 := o7.adv hA (by decide)
          replace o11 := o11.adv hA (by decide)
          refine st hf rfl rfl (by decide) (r_fa fa28_4 hf rfl) fun a hf => ?_
          refine st_skip hf rfl rfl (r_store_c hw o5 (by decide) ty26 (Nat.le_of_ble_eq_true rfl) hf rfl rfl o4.ro.cells1 o4.ro.one) fun a w hf hΦ => ?_
          obtain ⟨hw, hA, o5⟩ := hΦ
          replace o2 := o2.adv hA (by decide)
          replace o3 := o3.adv hA (by decide)
          replace o4 := o4.adv hA (by decide)
          replace o7 := o7.adv hA (by decide)
          replace o11 := o11.adv hA (by decide)
          replace o5 : Va ρ w 5 g5 28 ([.int .i64 x1.p, .int .i64 x1.n, .int .i64 x1.m, .int .i64 x1.k, va24]) := o5
          refine c_nil ?_
          refine n_block ?_
          refine n_then ?_
          refine c_region ?_
          refine st hf rfl rfl (by decide) (r_move hf rfl) fun a hf => ?_
          refine st hf rfl rfl (by decide) (r_add hf rfl rfl) fun a hf => ?_
          refine st hf rfl rfl (by decide) (r_assign hf rfl) fun a hf => ?_
          refine c_nil ?_
          obtain rfl := Option.some.inj hF
          exact Rnd.goes ⟨_, _, hw, hf.sub ⟨rfl, rfl, rfl, rfl, trivial⟩, o2, o3, o4, o5⟩
        · refine c_iff hf rfl hb22 ?_
          refine c_skip ?_
          refine n_block ?_
          refine n_then ?_
          refine c_region ?_
          refine st hf rfl rfl (by decide) (r_move hf rfl) fun a hf => ?_
          refine st hf rfl rfl (by decide) (r_add hf rfl rfl) fun a hf => ?_
          refine st hf rfl rfl (by decide) (r_assign hf rfl) fun a hf => ?_
          refine c_nil ?_
          obtain rfl := Option.some.inj hF
          exact Rnd.goes ⟨_, _, hw, hf.sub ⟨rfl, rfl, rfl, rfl, trivial⟩, o2, o3, o4, o5⟩
    · refine c_iff hf rfl hb9 ?_
      refine c_exit ?_
      refine x_then ?_
      obtain rfl := Option.some.inj hF
      exact Rnd.stops ⟨_, _, hw, hf.sub ⟨rfl, rfl, trivial⟩, o2, o3, o4, o5⟩
  · rintro ⟨s6, s7⟩ a w hs ⟨ρ, v8, hw, hf, o2, o3, o4, o5⟩
    subst hs
    replace hf : Fr 43 a [(4, .pointer (some ((⟨g2, 0, none⟩ : Addr).add 0))), (5, .pointer (some ((⟨g5, 0, none⟩ : Addr).add 0)))] := hf
    replace o2 : Va ρ w 2 g2 28 ([.int .i64 0, .int .i64 0, .int .i64 0, .int .i64 0, (.slice none 0 0)]) := o2
    replace o3 : Ow (kf cProd) 78 ρ w w0.heap.size 3 (.slice none 0 0) ([] : List Prod) := o3
    replace o4 : Ow (kf cProd) 78 ρ w w0.heap.size 4 v8 s7 := o4
    replace o5 : Va ρ w 5 g5 28 ([.int .i64 x1.p, .int .i64 x1.n, .int .i64 x1.m, .int .i64 x1.k, v8]) := o5
    have hF := hG5
    dsimp only at hF
    refine x_block ?_
    refine n_then ?_
    refine c_seq ?_
    refine c_region ?_
    refine st hf rfl rfl (by decide) (r_load_agg ty28 hf rfl o5.cl rfl) fun a hf => ?_
    refine st_skip hf rfl rfl (r_store_w (cs' := [.int .i64 x1.p, .int .i64 x1.n, .int .i64 x1.m, .int .i64 x1.k, v8]) hw o2 (by decide) ty28 rfl rfl (one_sch o4.ro.one) hf rfl rfl rfl) fun a w hf hΦ => ?_
    obtain ⟨hw, hA, o2⟩ := hΦ
    replace o3 := o3.adv hA (by decide)
    replace o4 := o4.adv hA (by decide)
    replace o5 := o5.adv hA (by decide)
    refine c_nt ?_
    refine c_retc ?_
    obtain rfl := Option.some.inj hF
    refine c_ret hf (res_cell Try.results73 ty28 hf rfl o2.cl rfl) ?_
    exact ⟨_, rfl, hw.below, ⟨_, rfl, o4.out⟩⟩
/-! f129 -/
noncomputable def spec_l01Mod (a0 : Int) (a1 : Int) : Option Int :=
  if a0 ≠ 0 then (some ((w64 ((a1.tmod a0) + a0)).tmod a0)) else none
theorem spec_l01Mod_ok {w0 : World} {a0 : Int} {a1 : Int}   {r : Int} (hF : spec_l01Mod a0 a1 = some r) :
    Calls Try.prog 129 [.int .i64 a0, .int .i64 a1].toArray w0 fun e w => ∃ v, e = .returned v ∧ Below w0.heap.size w0 w ∧ .int .i64 r = v := by
  refine calls_of (k := 12) Try.func129 rfl rfl (Nat.le_of_ble_eq_true rfl) fun a hf => ?_
  replace hf : Fr 12 a [(0, .int .i64 a0), (1, .int .i64 a1)] := hf
  refine c_start fun w ρ hw => ?_
  unfold spec_l01Mod at hF
  refine c_seq ?_
  refine c_region ?_
  refine st hf rfl rfl (by decide) (r_assign hf rfl) fun a hf => ?_
  refine c_nt ?_
  refine c_seq ?_
  refine c_region ?_
  refine st hf rfl rfl (by decide) (r_move hf rfl) fun a hf => ?_
  refine st hf rfl rfl (by decide) (r_move hf rfl) fun a hf => ?_
  obtain ⟨hc1, hF⟩ := of_guard hF
  refine st hf rfl rfl (by decide) (r_rem hf rfl rfl hc1) fun a hf => ?_
  refine st hf rfl rfl (by decide) (r_move hf rfl) fun a hf => ?_
  refine st hf rfl rfl (by decide) (r_add hf rfl rfl) fun a hf => ?_
  refine st hf rfl rfl (by decide) (r_move hf rfl) fun a hf => ?_
  refine st hf rfl rfl (by decide) (r_rem hf rfl rfl hc1) fun a hf => ?_
  refine st hf rfl rfl (by decide) (r_assign hf rfl) fun a hf => ?_
  refine c_nt ?_
  refine c_retc ?_
  obtain rfl := Option.some.inj hF
  refine c_ret hf (res_tmp Try.results129 hf rfl) ?_
  exact ⟨_, rfl, hw.below, rfl⟩
/-! f72 -/
noncomputable def spec_l01Add_l1 (a0 : Int) (a2 : Form) (a3 : Int) (s2 : Int) (s3 : Form) : Option (LR (Int × Form) Form) :=
  if (decide (s2 < 9)) = true then (if 0 ≤ s2 ∧ s2 < 9 then ((spec_l01Mod a0 (w64 (((vg 0 s3 s2).toNat : Int) + (w64 (a3 * ((vg 0 a2 s2).toNat : Int)))))).bind fun x6 => some (.next (w64 (s2 + 1), vs s3 s2 (u8 x6)))) else none) else (some (.stop (s2, s3)))
noncomputable def spec_l01Add (a0 : Int) (a1 : Form) (a2 : Form) (a3 : Int) : Option Form :=
  (iter (fun s => spec_l01Add_l1 a0 a2 a3 s.1 s.2) (0, a1)).bind fun o => match o with | .stop (s2, s3) => (some (s3)) | .ret r => some r | .next _ => none
theorem spec_l01Add_ok {w0 : World} {a0 : Int} {a1 : Form} {a2 : Form} {a3 : Int}   {r : Form} (hF : spec_l01Add a0 a1 a2 a3 = some r) :
    Calls Try.prog 72 [.int .i64 a0, .agg (cForm.enc a1).toArray, .agg (cForm.enc a2).toArray, .int .i64 a3].toArray w0 fun e w => ∃ v, e = .returned v ∧ Below w0.heap.size w0 w ∧ .agg (cForm.enc r).toArray = v := by
  refine calls_of (k := 31) Try.func72 rfl rfl (Nat.le_of_ble_eq_true rfl) fun a hf => ?_
  replace hf : Fr 31 a [(0, .int .i64 a0), (1, .agg (cForm.enc a1).toArray), (2, .agg (cForm.enc a2).toArray), (3, .int .i64 a3)] := hf
  refine c_start fun w ρ hw => ?_
  unfold spec_l01Add at hF
  refine c_seq ?_
  refine c_region ?_
  refine st_ex hf rfl rfl (by decide) (r_box (cs := cForm.enc a1) 1 hw hf rfl rfl) fun a v w hf hΦ => ?_
  obtain ⟨g1, ρ, rfl, hw, hE, o1⟩ := hΦ
  refine st_ex hf rfl rfl (by decide) (r_box (cs := cForm.enc a2) 2 hw hf rfl rfl) fun a v w hf hΦ => ?_
  obtain ⟨g2, ρ, rfl, hw, hE, o2⟩ := hΦ
  replace o1 := o1.ext hE
  refine st_ex hf rfl rfl (by decide) (r_alloc (cs := cForm.enc zForm) 3 ze39 rfl hw) fun a v w hf hΦ => ?_
  obtain ⟨g3, ρ, rfl, hw, hE, o3⟩ := hΦ
  replace o1 := o1.ext hE
  replace o2 := o2.ext hE
  refine c_nt ?_
  refine c_seq ?_
  refine c_seq ?_
  refine c_region ?_
  refine st hf rfl rfl (by decide) (r_assign hf rfl) fun a hf => ?_
  refine c_nt ?_
  obtain ⟨ol1, ho1, hG1⟩ := of_bind hF
  clear hF
  refine c_block (c_loop (id := 0) (fun s => spec_l01Add_l1 a0 a2 a3 s.1 s.2) (fun (s : Int × Form) a w => ∃ ρ, Wd w0 ρ w ∧ Fr 31 a [(0, .int .i64 a0), (3, .int .i64 a3), (5, .pointer (some ((⟨g1, 0, none⟩ : Addr).add 0))), (6, .pointer (some ((⟨g2, 0, none⟩ : Addr).add 0))), (8, .pointer (some ((⟨g3, 0, none⟩ : Addr).add 0))), (9, .int .i64 s.1)] ∧ Va ρ w 1 g1 39 (cForm.enc s.2) ∧ Va ρ w 2 g2 39 (cForm.enc a2) ∧ Va ρ w 3 g3 39 (cForm.enc zForm)) (fun (s : Int × Form) a w => ∃ ρ, Wd w0 ρ w ∧ Fr 31 a [(5, .pointer (some ((⟨g1, 0, none⟩ : Addr).add 0))), (8, .pointer (some ((⟨g3, 0, none⟩ : Addr).add 0)))] ∧ Va ρ w 1 g1 39 (cForm.enc s.2) ∧ Va ρ w 3 g3 39 (cForm.enc zForm)) ho1 ⟨_, hw, hf.sub ⟨rfl, rfl, rfl, rfl, rfl, rfl, trivial⟩, o1, o2, o3⟩ ?_ ?_)
  · rintro ⟨s2, s3⟩ lr a w ⟨ρ, hw, hf, o1, o2, o3⟩ hF
    replace hf : Fr 31 a [(0, .int .i64 a0), (3, .int .i64 a3), (5, .pointer (some ((⟨g1, 0, none⟩ : Addr).add 0))), (6, .pointer (some ((⟨g2, 0, none⟩ : Addr).add 0))), (8, .pointer (some ((⟨g3, 0, none⟩ : Addr).add 0))), (9, .int .i64 s2)] := hf
    replace o1 : Va ρ w 1 g1 39 (cForm.enc s3) := o1
    replace o2 : Va ρ w 2 g2 39 (cForm.enc a2) := o2
    replace o3 : Va ρ w 3 g3 39 (cForm.enc zForm) := o3
    replace hF : spec_l01Add_l1 a0 a2 a3 s2 s3 = some lr := hF
    unfold spec_l01Add_l1 at hF
    refine c_seq ?_
    refine c_seq ?_
    refine c_region ?_
    refine st hf rfl rfl (by decide) (r_move hf rfl) fun a hf => ?_
    refine st hf rfl rfl (by decide) (r_lss hf rfl rfl) fun a hf => ?_
    refine c_nt ?_
    rcases of_ite hF with ⟨hb4, hF⟩ | ⟨hb4, hF⟩
    · refine c_ift hf rfl hb4 ?_
      refine c_skip ?_
      refine n_then ?_
      refine c_seq ?_
      refine c_block ?_
      obtain ⟨hc5, hF⟩ := of_guard hF
      obtain ⟨x6, hx7, hF⟩ := of_bind hF
      replace hf : Fr 31 a [(0, .int .i64 a0), (3, .int .i64 a3), (5, .pointer (some ((⟨g1, 0, none⟩ : Addr).add 0))), (6, .pointer (some ((⟨g2, 0, none⟩ : Addr).add 0))), (8, .pointer (some ((⟨g3, 0, none⟩ : Addr).add 0))), (9, .int .i64 s2)] := hf.sub ⟨rfl, rfl, rfl, rfl, rfl, rfl, trivial⟩
      refine c_drawL (h := 15) mixed (by kernel_rfl) (by kernel_rfl) (fun ρ w => Va ρ w 1 g1 39 (cForm.enc s3) ∧ Va ρ w 2 g2 39 (cForm.enc a2) ∧ Va ρ w 3 g3 39 (cForm.enc zForm)) ?_ [fun ρ w v => .int .i64 s2 = v, fun ρ w v => .int .i64 a0 = v, fun ρ w v => .int .i64 s2 = v, fun ρ w v => .pointer (some ((⟨g1, 0, none⟩ : Addr).add (0 + s2.toNat * 1))) = v, fun ρ w v => .int .u8 ((vg 0 s3 s2).toNat : Int) = v, fun ρ w v => .int .i64 ((vg 0 s3 s2).toNat : Int) = v, fun ρ w v => .int .i64 a3 = v, fun ρ w v => .int .i64 s2 = v, fun ρ w v => .pointer (some ((⟨g2, 0, none⟩ : Addr).add (0 + s2.toNat * 1))) = v, fun ρ w v => .int .u8 ((vg 0 a2 s2).toNat : Int) = v, fun ρ w v => .int .i64 ((vg 0 a2 s2).toNat : Int) = v, fun ρ w v => .int .i64 (w64 (a3 * ((vg 0 a2 s2).toNat : Int))) = v, fun ρ w v => .int .i64 (w64 (((vg 0 s3 s2).toNat : Int) + (w64 (a3 * ((vg 0 a2 s2).toNat : Int))))) = v, fun ρ w v => .int .i64 x6 = v, fun ρ w v => .int .u8 ((u8 x6).toNat : Int) = v] ?_ hw ⟨o1, o2, o3⟩ hf ?_ ?_
      · intro ρ w ρ' w' hE hG
        obtain ⟨o1, o2, o3⟩ := hG
        exact ⟨o1.ext hE, o2.ext hE, o3.ext hE⟩
      · exact LastsL.cons (fun _ _ _ _ _ _ h => h) <| LastsL.cons (fun _ _ _ _ _ _ h => h) <| LastsL.cons (fun _ _ _ _ _ _ h => h) <| LastsL.cons (fun _ _ _ _ _ _ h => h) <| LastsL.cons (fun _ _ _ _ _ _ h => h) <| LastsL.cons (fun _ _ _ _ _ _ h => h) <| LastsL.cons (fun _ _ _ _ _ _ h => h) <| LastsL.cons (fun _ _ _ _ _ _ h => h) <| LastsL.cons (fun _ _ _ _ _ _ h => h) <| LastsL.cons (fun _ _ _ _ _ _ h => h) <| LastsL.cons (fun _ _ _ _ _ _ h => h) <| LastsL.cons (fun _ _ _ _ _ _ h => h) <| LastsL.cons (fun _ _ _ _ _ _ h => h) <| LastsL.cons (fun _ _ _ _ _ _ h => h) <| LastsL.cons (fun _ _ _ _ _ _ h => h) <| LastsL.nil
      · refine StepsB.cons ?_ <| StepsB.cons ?_ <| StepsB.cons ?_ <| StepsB.cons ?_ <| StepsB.cons ?_ <| StepsB.cons ?_ <| StepsB.cons ?_ <| StepsB.cons ?_ <| StepsB.cons ?_ <| StepsB.cons ?_ <| StepsB.cons ?_ <| StepsB.cons ?_ <| StepsB.cons ?_ <| StepsB.cons ?_ <| StepsB.cons ?_ <| StepsB.nil
        · intro ρ w a hw hG hf hd K hK
          obtain ⟨o1, o2, o3⟩ := hG
          exact d_val (R := fun ρ w v => .int .i64 s2 = v) hw (wn rfl) (r_move hf rfl) rfl rfl hK
        · intro ρ w a hw hG hf hd K hK
          obtain ⟨o1, o2, o3⟩ := hG
          exact d_val (R := fun ρ w v => .int .i64 a0 = v) hw (wn rfl) (r_move hf rfl) rfl rfl hK
        · intro ρ w a hw hG hf hd K hK
          obtain ⟨o1, o2, o3⟩ := hG
          exact d_val (R := fun ρ w v => .int .i64 s2 = v) hw (wn rfl) (r_move hf rfl) rfl rfl hK
        · intro ρ w a hw hG hf hd K hK
          obtain ⟨o1, o2, o3⟩ := hG
          obtain ⟨_, ht, rfl⟩ := hd 2 (by kernel_rfl)
          replace hf := hf.more ht
          exact d_val (R := fun ρ w v => .pointer (some ((⟨g1, 0, none⟩ : Addr).add (0 + s2.toNat * 1))) = v) hw (wn rfl) (r_indexAddr_arr Try.underlying39 sz5 hf rfl rfl hc5.1 hc5.2) rfl rfl hK
        · intro ρ w a hw hG hf hd K hK
          obtain ⟨o1, o2, o3⟩ := hG
          obtain ⟨_, ht, rfl⟩ := hd 3 (by kernel_rfl)
          replace hf := hf.more ht
          exact d_val (R := fun ρ w v => .int .u8 ((vg 0 s3 s2).toNat : Int) = v) hw (wn rfl) (r_load_cell ty5 hf rfl (o1.cl.lens (Lens.vec 0 fU8 s2 hc5.1 hc5.2))) rfl rfl hK
        · intro ρ w a hw hG hf hd K hK
          obtain ⟨o1, o2, o3⟩ := hG
          obtain ⟨_, ht, rfl⟩ := hd 4 (by kernel_rfl)
          replace hf := hf.more ht
          exact d_val (R := fun ρ w v => .int .i64 ((vg 0 s3 s2).toNat : Int) = v) hw (wn rfl) (r_conv_u8_i64 Try.underlying5 Try.underlying2 hf rfl) rfl rfl hK
        · intro ρ w a hw hG hf hd K hK
          obtain ⟨o1, o2, o3⟩ := hG
          exact d_val (R := fun ρ w v => .int .i64 a3 = v) hw (wn rfl) (r_move hf rfl) rfl rfl hK
        · intro ρ w a hw hG hf hd K hK
          obtain ⟨o1, o2, o3⟩ := hG
          exact d_val (R := fun ρ w v => .int .i64 s2 = v) hw (wn rfl) (r_move hf rfl) rfl rfl hK
        · intro ρ w a hw hG hf hd K hK
          obtain ⟨o1, o2, o3⟩ := hG
          obtain ⟨_, ht, rfl⟩ := hd 7 (by kernel_rfl)
          replace hf := hf.more ht
          exact d_val (R := fun ρ w v => .pointer (some ((⟨g2, 0, none⟩ : Addr).add (0 + s2.toNat * 1))) = v) hw (wn rfl) (r_indexAddr_arr Try.underlying39 sz5 hf rfl rfl hc5.1 hc5.2) rfl rfl hK
        · intro ρ w a hw hG hf hd K hK
          obtain ⟨o1, o2, o3⟩ := hG
          obtain ⟨_, ht, rfl⟩ := hd 8 (by kernel_rfl)
          replace hf := hf.more ht
          exact d_val (R := fun ρ w v => .int .u8 ((vg 0 a2 s2).toNat : Int) = v) hw (wn rfl) (r_load_cell ty5 hf rfl (o2.cl.lens (Lens.vec 0 fU8 s2 hc5.1 hc5.2))) rfl rfl hK
        · intro ρ w a hw hG hf hd K hK
          obtain ⟨o1, o2, o3⟩ := hG
          obtain ⟨_, ht, rfl⟩ := hd 9 (by kernel_rfl)
          replace hf := hf.more ht
          exact d_val (R := fun ρ w v => .int .i64 ((vg 0 a2 s2).toNat : Int) = v) hw (wn rfl) (r_conv_u8_i64 Try.underlying5 Try.underlying2 hf rfl) rfl rfl hK
        · intro ρ w a hw hG hf hd K hK
          obtain ⟨o1, o2, o3⟩ := hG
          obtain ⟨_, ht, rfl⟩ := hd 6 (by kernel_rfl)
          replace hf := hf.more ht
          obtain ⟨_, ht, rfl⟩ := hd 10 (by kernel_rfl)
          replace hf := hf.more ht
          exact d_val (R := fun ρ w v => .int .i64 (w64 (a3 * ((vg 0 a2 s2).toNat : Int))) = v) hw (wn rfl) (r_mul hf rfl rfl) rfl rfl hK
        · intro ρ w a hw hG hf hd K hK
          obtain ⟨o1, o2, o3⟩ := hG
          obtain ⟨_, ht, rfl⟩ := hd 5 (by kernel_rfl)
          replace hf := hf.more ht
          obtain ⟨_, ht, rfl⟩ := hd 11 (by kernel_rfl)
          replace hf := hf.more ht
          exact d_val (R := fun ρ w v => .int .i64 (w64 (((vg 0 s3 s2).toNat : Int) + (w64 (a3 * ((vg 0 a2 s2).toNat : Int))))) = v) hw (wn rfl) (r_add hf rfl rfl) rfl rfl hK
        · intro ρ w a hw hG hf hd K hK
          obtain ⟨o1, o2, o3⟩ := hG
          obtain ⟨_, ht, rfl⟩ := hd 1 (by kernel_rfl)
          replace hf := hf.more ht
          obtain ⟨_, ht, rfl⟩ := hd 12 (by kernel_rfl)
          replace hf := hf.more ht
          refine d_call (R := fun ρ w v => .int .i64 x6 = v) hw (wn rfl) (r_fn en129 hf rfl) (spec_l01Mod_ok  hx7) rfl (fun v w' hΦ => ?_) hK
          obtain ⟨hb, hΦ⟩ := hΦ
          obtain rfl := hΦ
          have hE := Ext.new (ρ := ρ) 4 hb
          exact ⟨_, hw.new 4 hb, hE, rfl⟩
        · intro ρ w a hw hG hf hd K hK
          obtain ⟨o1, o2, o3⟩ := hG
          obtain ⟨_, ht, rfl⟩ := hd 13 (by kernel_rfl)
          replace hf := hf.more ht
          exact d_val (R := fun ρ w v => .int .u8 ((u8 x6).toNat : Int) = v) hw (wn rfl) (r_conv_i64_u8 Try.underlying2 Try.underlying5 hf rfl) rfl rfl hK
      · intro ρ w a hw hG hf hd
        obtain ⟨o1, o2, o3⟩ := hG
        replace hf : Fr 31 a [(0, .int .i64 a0), (3, .int .i64 a3), (5, .pointer (some ((⟨g1, 0, none⟩ : Addr).add 0))), (6, .pointer (some ((⟨g2, 0, none⟩ : Addr).add 0))), (8, .pointer (some ((⟨g3, 0, none⟩ : Addr).add 0))), (9, .int .i64 s2)] := hf
        obtain ⟨_, ht, rfl⟩ := hd 0 (by decide)
        replace hf := hf.more ht
        obtain ⟨_, ht, rfl⟩ := hd 14 (by decide)
        replace hf := hf.more ht
        refine st hf rfl rfl (by decide) (r_indexAddr_arr Try.underlying39 sz5 hf rfl rfl hc5.1 hc5.2) fun a hf => ?_
        refine st_skip hf rfl rfl (r_store_l (b := u8 x6) hw o1 (by decide) (Lens.vec 0 fU8 s2 hc5.1 hc5.2) (by simp only [Nat.zero_add] <;> rfl) ty5 hf rfl rfl rfl) fun a w hf hΦ => ?_
        obtain ⟨hw, hA, o1⟩ := hΦ
        replace o2 := o2.adv hA (by decide)
        replace o3 := o3.adv hA (by decide)
        refine c_nil ?_
        refine n_block ?_
        refine n_then ?_
        refine c_region ?_
        refine st hf rfl rfl (by decide) (r_move hf rfl) fun a hf => ?_
        refine st hf rfl rfl (by decide) (r_add hf rfl rfl) fun a hf => ?_
        refine st hf rfl rfl (by decide) (r_assign hf rfl) fun a hf => ?_
        refine c_nil ?_
        obtain rfl := Option.some.inj hF
        exact Rnd.goes ⟨_, hw, hf.sub ⟨rfl, rfl, rfl, rfl, rfl, rfl, trivial⟩, o1, o2, o3⟩
    · refine c_iff hf rfl hb4 ?_
      refine c_exit ?_
      refine x_then ?_
      obtain rfl := Option.some.inj hF
      exact Rnd.stops ⟨_, hw, hf.sub ⟨rfl, rfl, trivial⟩, o1, o3⟩
  · rintro ⟨s2, s3⟩ a w hs ⟨ρ, hw, hf, o1, o3⟩
    subst hs
    replace hf : Fr 31 a [(5, .pointer (some ((⟨g1, 0, none⟩ : Addr).add 0))), (8, .pointer (some ((⟨g3, 0, none⟩ : Addr).add 0)))] := hf
    replace o1 : Va ρ w 1 g1 39 (cForm.enc s3) := o1
    replace o3 : Va ρ w 3 g3 39 (cForm.enc zForm) := o3
    have hF := hG1
    dsimp only at hF
    refine x_block ?_
    refine n_then ?_
    refine c_seq ?_
    refine c_region ?_
    refine st hf rfl rfl (by decide) (r_load_agg ty39 hf rfl o1.cl (cForm.len _)) fun a hf => ?_
    refine st_skip hf rfl rfl (r_store_w (cs' := cForm.enc s3) hw o3 (by decide) ty39 (cForm.len _) (cForm.len _) (cForm.one _) hf rfl rfl rfl) fun a w hf hΦ => ?_
    obtain ⟨hw, hA, o3⟩ := hΦ
    replace o1 := o1.adv hA (by decide)
    refine c_nt ?_
    refine c_retc ?_
    obtain rfl := Option.some.inj hF
    refine c_ret hf (res_cell Try.results72 ty39 hf rfl o3.cl (cForm.len _)) ?_
    exact ⟨_, rfl, hw.below, rfl⟩
end Go.Proofs.YtB
