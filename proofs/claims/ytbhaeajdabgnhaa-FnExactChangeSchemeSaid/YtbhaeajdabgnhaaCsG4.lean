/- Functions of the program as plain functions, and that they compute these. Printed by gen.py. -/
import Derived.Test.YtbhaeajdabgnhaaCsG3
set_option linter.unusedVariables false
set_option linter.unusedSimpArgs false
set_option maxRecDepth 4000
set_option maxHeartbeats 1000000
namespace Go.Proofs.YtB
open Go Go.RowKit Go.Proofs Go.Proofs.YtbhaeajdabgnhaaW.PrintWords
/-! f44 -/
noncomputable def spec_ChangeScheme (a0 : Sch) (a1 : List (List Int)) (a2 : List (List Int)) (a3 : List (List Int)) : Option (Sch × Int) :=
  (spec_l01Is a0).bind fun x1 => if (!x1) = true then (some (((⟨0, 0, 0, 0, ([] : List Prod)⟩ : Sch), 1))) else (((spec_l04Square a0.p a1).bind fun x6 => if (!x6) = true then (some true) else (some (decide ((a1.length : Int) ≠ (vg 0 (#v[a0.n, a0.m, a0.k] : Vec3) 0))))).bind fun (s5 : Bool) => if s5 = true then (some (((⟨0, 0, 0, 0, ([] : List Prod)⟩ : Sch), 2))) else (((spec_l04Square a0.p a2).bind fun x12 => if (!x12) = true then (some true) else (some (decide ((a2.length : Int) ≠ (vg 0 (#v[a0.n, a0.m, a0.k] : Vec3) 1))))).bind fun (s11 : Bool) => if s11 = true then (some (((⟨0, 0, 0, 0, ([] : List Prod)⟩ : Sch), 2))) else (((spec_l04Square a0.p a3).bind fun x18 => if (!x18) = true then (some true) else (some (decide ((a3.length : Int) ≠ (vg 0 (#v[a0.n, a0.m, a0.k] : Vec3) 2))))).bind fun (s17 : Bool) => if s17 = true then (some (((⟨0, 0, 0, 0, ([] : List Prod)⟩ : Sch), 2))) else ((spec_l04Inverse a0.p a1).bind fun x22 => if (!x22.2) = true then (some (((⟨0, 0, 0, 0, ([] : List Prod)⟩ : Sch), 5))) else ((spec_l04Inverse a0.p a2).bind fun x27 => if (!x27.2) = true then (some (((⟨0, 0, 0, 0, ([] : List Prod)⟩ : Sch), 5))) else ((spec_l04Inverse a0.p a3).bind fun x32 => if (!x32.2) = true then (some (((⟨0, 0, 0, 0, ([] : List Prod)⟩ : Sch), 5))) else ((spec_l04Change a0 (a1, a2, a3) (x22.1, x27.1, x32.1)).bind fun x37 => some ((x37, 0)))))))))
theorem spec_ChangeScheme_ok {w0 : World} {a0 : Sch} {a1 : List (List Int)} {a2 : List (List Int)} {a3 : List (List Int)} {va0 : Value} {va1 : Value} {va2 : Value} {va3 : Value} (h0 : Ro (kf cProd) w0 va0 a0.ps) (h1 : Ro (Kd.slice 2 (kf fI64)) w0 va1 a1) (h2 : Ro (Kd.slice 2 (kf fI64)) w0 va2 a2) (h3 : Ro (Kd.slice 2 (kf fI64)) w0 va3 a3) {r : Sch × Int} (hF : spec_ChangeScheme a0 a1 a2 a3 = some r) :
    Calls Try.prog 44 [.agg ([vI a0.p, vI a0.n, vI a0.m, vI a0.k, va0]).toArray, va1, va2, va3].toArray w0 fun e w => ∃ v, e = .returned v ∧ Below w0.heap.size w0 w ∧ ∃ u0, .tuple #[.agg [.int .i64 r.1.p, .int .i64 r.1.n, .int .i64 r.1.m, .int .i64 r.1.k, u0].toArray, .int .i64 r.2] = v ∧ Fresh (kf cProd) 82 w0 w u0 r.1.ps := by
  refine calls_of (k := 78) Try.func44 rfl rfl (Nat.le_of_ble_eq_true rfl) fun a hf => ?_
  replace hf : Fr 78 a [(0, .agg ([vI a0.p, vI a0.n, vI a0.m, vI a0.k, va0]).toArray), (1, va1), (2, va2), (3, va3)] := hf
  refine c_start fun w ρ hw => ?_
  unfold spec_ChangeScheme at hF
  refine c_seq <| c_region ?_
  refine sx_ hf (r_box (cs := [vI a0.p, vI a0.n, vI a0.m, vI a0.k, va0]) 1 hw hf rfl rfl) fun a v w hf hΦ => ?_
  obtain ⟨g1, ρ, rfl, hw, hE, o1⟩ := hΦ
  have o3 : Ow (kf cProd) 82 ρ w w0.heap.size 3 (.slice none 0 0) [] := Ow.nil _ _ _ _ _ _
  refine sx_ hf (r_alloc (cs := [vI 0, vI 0, vI 0, vI 0, (.slice none 0 0)]) 2 ze39 rfl hw) fun a v w hf hΦ => ?_
  obtain ⟨g2, ρ, rfl, hw, hE, o2⟩ := hΦ
  replace o1 := o1.ext hE
  replace o3 := o3.ext hE
  refine s_ hf (r_assign hf rfl) fun a hf => ?_
  refine c_nt <| c_seq <| c_seq <| c_region ?_
  refine s_ hf (r_load_agg ty39 hf rfl o1.cl rfl) fun a hf => ?_
  obtain ⟨x1, hx2, hF⟩ := of_bind hF
  refine st_fn 4 hw hf rfl rfl (by decide) (r_fn en77 hf rfl) (spec_l01Is_ok (a0 := a0) (h0.now hw) hx2) fun a v w ρ hf hw hE hN hΦ => ?_
  obtain rfl := hΦ
  replace o1 := o1.ext hE
  replace o3 := o3.ext hE
  replace o2 := o2.ext hE
  refine s_ hf (r_not hf rfl) fun a hf => ?_
  refine c_nt ?_
  rcases of_ite hF with ⟨hb3, hF⟩ | ⟨hb3, hF⟩
  · refine c_ift hf rfl hb3 <| c_seq <| c_region ?_
    have o5 : Ow (kf cProd) 82 ρ w w0.heap.size 5 (.slice none 0 0) [] := Ow.nil _ _ _ _ _ _
    refine s_ hf (r_build_struct (pl := [(0, 1), (1, 1), (2, 1), (3, 1), (4, 1)]) (vs := []) (res := ([vI 0, vI 0, vI 0, vI 0, (.slice none 0 0)]).toArray) Try.underlying39 (by kernel_rfl) ze39 hf rfl rfl rfl) fun a hf => ?_
    refine sk_ hf (r_store_w (cs' := [vI 0, vI 0, vI 0, vI 0, (.slice none 0 0)]) hw o2 (by decide) ty39 rfl rfl (one_sch o5.ro.one) hf rfl rfl rfl) fun a w hf hΦ => ?_
    obtain ⟨hw, hA, o2⟩ := hΦ
    replace o1 := o1.adv hA (by decide)
    replace o3 := o3.adv hA (by decide)
    replace o5 := o5.adv hA (by decide)
    refine s_ hf (r_assign hf rfl) fun a hf => ?_
    refine c_nt <| c_retc ?_
    obtain rfl := Option.some.inj hF
    refine r_then <| c_ret hf (res_ct Try.results44 ty39 hf rfl o2.cl rfl rfl) ?_
    exact ⟨_, rfl, hw.below, ⟨_, rfl, o5.out⟩⟩
  refine c_iff hf rfl hb3 <| c_skip <| n_then <| c_seq ?_
  replace hf : Fr 78 a [(1, va1), (2, va2), (3, va3), (4, .pointer (some ((⟨g1, 0, none⟩ : Addr).add 0))), (8, .pointer (some ((⟨g2, 0, none⟩ : Addr).add 0)))] := hf.sub ⟨rfl, rfl, rfl, rfl, rfl, trivial⟩
  refine c_stage 17 [15, 16] mixed (by kernel_rfl) (by kernel_rfl) (fun c ρ w => Va ρ w 1 g1 39 ([vI a0.p, vI a0.n, vI a0.m, vI a0.k, va0]) ∧ Va ρ w 2 g2 39 ([vI 0, vI 0, vI 0, vI 0, (.slice none 0 0)]) ∧ O82 ρ w w0 3 (.slice none 0 0) ([] : List Prod)) ?_ [fun c ρ w v => va1 = v, fun c ρ w v => va2 = v, fun c ρ w v => va3 = v, fun c ρ w v => .agg ([va1, va2, va3]).toArray = v, fun c ρ w v => .pointer (some ((⟨g1, 0, none⟩ : Addr).add (0 + 1))) = v, fun c ρ w v => vI a0.n = v, fun c ρ w v => .pointer (some ((⟨g1, 0, none⟩ : Addr).add (0 + 2))) = v, fun c ρ w v => vI a0.m = v, fun c ρ w v => .pointer (some ((⟨g1, 0, none⟩ : Addr).add (0 + 3))) = v, fun c ρ w v => vI a0.k = v, fun c ρ w v => .agg (cVec3.enc (#v[a0.n, a0.m, a0.k] : Vec3)).toArray = v, fun c ρ w v => .agg ([(.slice none 0 0), (.slice none 0 0), (.slice none 0 0)]).toArray = v ∧ O36 ρ w w0 6 (.slice none 0 0) ([] : List (List Int)) ∧ O36 ρ w w0 7 (.slice none 0 0) ([] : List (List Int)) ∧ O36 ρ w w0 8 (.slice none 0 0) ([] : List (List Int)), fun c ρ w v => ∃ g9, .pointer (some ((⟨g9, 0, none⟩ : Addr).add 0)) = v ∧ (c ≤ 0 → Va ρ w 9 g9 97 ([(.slice none 0 0), (.slice none 0 0), (.slice none 0 0)])) ∧ (0 < c → Va ρ w 9 g9 97 ([va1, va2, va3])), fun c ρ w v => ∃ g13, .pointer (some ((⟨g13, 0, none⟩ : Addr).add 0)) = v ∧ (c ≤ 1 → Va ρ w 13 g13 84 (cVec3.enc zVec3)) ∧ (1 < c → Va ρ w 13 g13 84 (cVec3.enc (#v[a0.n, a0.m, a0.k] : Vec3))), fun c ρ w v => ∃ g14, .pointer (some ((⟨g14, 0, none⟩ : Addr).add 0)) = v ∧ Va ρ w 14 g14 97 ([(.slice none 0 0), (.slice none 0 0), (.slice none 0 0)]) ∧ O36 ρ w w0 15 (.slice none 0 0) ([] : List (List Int)) ∧ O36 ρ w w0 16 (.slice none 0 0) ([] : List (List Int)) ∧ O36 ρ w w0 17 (.slice none 0 0) ([] : List (List Int)), fun _ _ _ _ => True, fun _ _ _ _ => True] ?_ hw ⟨o1, o2, o3⟩ hf ?_ ?_
  · intro c ρ w ρ' w' hE hG
    obtain ⟨o1, o2, o3⟩ := hG
    exact ⟨o1.ext hE, o2.ext hE, o3.ext hE⟩
  · exact LastsS.cons (fun _ _ _ _ _ _ _ h => h) <| LastsS.cons (fun _ _ _ _ _ _ _ h => h) <| LastsS.cons (fun _ _ _ _ _ _ _ h => h) <| LastsS.cons (fun _ _ _ _ _ _ _ h => h) <| LastsS.cons (fun _ _ _ _ _ _ _ h => h) <| LastsS.cons (fun _ _ _ _ _ _ _ h => h) <| LastsS.cons (fun _ _ _ _ _ _ _ h => h) <| LastsS.cons (fun _ _ _ _ _ _ _ h => h) <| LastsS.cons (fun _ _ _ _ _ _ _ h => h) <| LastsS.cons (fun _ _ _ _ _ _ _ h => h) <| LastsS.cons (fun _ _ _ _ _ _ _ h => h) <| LastsS.cons (fun c _ _ _ _ _ hE h => by obtain ⟨h, o6, o7, o8⟩ := h; exact ⟨h, o6.ext hE, o7.ext hE, o8.ext hE⟩) <| LastsS.cons (fun c _ _ _ _ _ hE h => by obtain ⟨g9, h, hx, hy⟩ := h; exact ⟨_, h, fun h => (hx h).ext hE, (fun h => by obtain o9 := hy h; exact o9.ext hE)⟩) <| LastsS.cons (fun c _ _ _ _ _ hE h => by obtain ⟨g13, h, hx, hy⟩ := h; exact ⟨_, h, fun h => (hx h).ext hE, (fun h => by obtain o13 := hy h; exact o13.ext hE)⟩) <| LastsS.cons (fun c _ _ _ _ _ hE h => by obtain ⟨g14, h, o14, o15, o16, o17⟩ := h; exact ⟨_, h, o14.ext hE, o15.ext hE, o16.ext hE, o17.ext hE⟩) <| LastsS.cons (fun _ _ _ _ _ _ _ h => h) <| LastsS.cons (fun _ _ _ _ _ _ _ h => h) <| LastsS.nil
  · refine StepsS.float rfl ?_ <| StepsS.float rfl ?_ <| StepsS.float rfl ?_ <| StepsS.float rfl ?_ <| StepsS.float rfl ?_ <| StepsS.float rfl ?_ <| StepsS.float rfl ?_ <| StepsS.float rfl ?_ <| StepsS.float rfl ?_ <| StepsS.float rfl ?_ <| StepsS.float rfl ?_ <| StepsS.float rfl ?_ <| StepsS.float rfl ?_ <| StepsS.float rfl ?_ <| StepsS.float rfl ?_ <| StepsS.main 0 rfl rfl ?_ <| StepsS.main 1 rfl rfl ?_ <| StepsS.nil
    · intro c ρ w a hs hw hG hf hd K hK
      obtain ⟨o1, o2, o3⟩ := hG
      exact dv_ hK hw (wn rfl) (r_move hf rfl) rfl
    · intro c ρ w a hs hw hG hf hd K hK
      obtain ⟨o1, o2, o3⟩ := hG
      exact dv_ hK hw (wn rfl) (r_move hf rfl) rfl
    · intro c ρ w a hs hw hG hf hd K hK
      obtain ⟨o1, o2, o3⟩ := hG
      exact dv_ hK hw (wn rfl) (r_move hf rfl) rfl
    · intro c ρ w a hs hw hG hf hd K hK
      obtain ⟨o1, o2, o3⟩ := hG
      obtain ⟨_, ht0, rfl⟩ := hd 0 (by kernel_rfl) (by kernel_rfl)
      replace hf := hf.more ht0
      obtain ⟨_, ht1, rfl⟩ := hd 1 (by kernel_rfl) (by kernel_rfl)
      replace hf := hf.more ht1
      obtain ⟨_, ht2, rfl⟩ := hd 2 (by kernel_rfl) (by kernel_rfl)
      replace hf := hf.more ht2
      exact dv_ hK hw (wn rfl) (r_build_arr (vs := [(0, va1), (1, va2), (2, va3)]) (res := ([va1, va2, va3]).toArray) Try.underlying97 sz24 ze97 hf rfl rfl ((fill_step (off := 0) (sz := 1) (cs := [.slice none 0 0, .slice none 0 0, .slice none 0 0]) rfl (h1.now hw).cells1 rfl (Nat.le_of_ble_eq_true rfl)).trans ((fill_step (off := 1) (sz := 1) (cs := [va1, .slice none 0 0, .slice none 0 0]) rfl (h2.now hw).cells1 rfl (Nat.le_of_ble_eq_true rfl)).trans ((fill_step (off := 2) (sz := 1) (cs := [va1, va2, .slice none 0 0]) rfl (h3.now hw).cells1 rfl (Nat.le_of_ble_eq_true rfl)).trans rfl)))) rfl
    · intro c ρ w a hs hw hG hf hd K hK
      obtain ⟨o1, o2, o3⟩ := hG
      exact dv_ hK hw (wn rfl) (r_fa fa39_1 hf rfl) rfl
    · intro c ρ w a hs hw hG hf hd K hK
      obtain ⟨o1, o2, o3⟩ := hG
      obtain ⟨_, ht4, rfl⟩ := hd 4 (by kernel_rfl) (by kernel_rfl)
      replace hf := hf.more ht4
      exact dv_ hK hw (wn rfl) (r_load_cell ty2 hf rfl (o1.cl.at_ 1 _ rfl)) rfl
    · intro c ρ w a hs hw hG hf hd K hK
      obtain ⟨o1, o2, o3⟩ := hG
      exact dv_ hK hw (wn rfl) (r_fa fa39_2 hf rfl) rfl
    · intro c ρ w a hs hw hG hf hd K hK
      obtain ⟨o1, o2, o3⟩ := hG
      obtain ⟨_, ht6, rfl⟩ := hd 6 (by kernel_rfl) (by kernel_rfl)
      replace hf := hf.more ht6
      exact dv_ hK hw (wn rfl) (r_load_cell ty2 hf rfl (o1.cl.at_ 2 _ rfl)) rfl
    · intro c ρ w a hs hw hG hf hd K hK
      obtain ⟨o1, o2, o3⟩ := hG
      exact dv_ hK hw (wn rfl) (r_fa fa39_3 hf rfl) rfl
    · intro c ρ w a hs hw hG hf hd K hK
      obtain ⟨o1, o2, o3⟩ := hG
      obtain ⟨_, ht8, rfl⟩ := hd 8 (by kernel_rfl) (by kernel_rfl)
      replace hf := hf.more ht8
      exact dv_ hK hw (wn rfl) (r_load_cell ty2 hf rfl (o1.cl.at_ 3 _ rfl)) rfl
    · intro c ρ w a hs hw hG hf hd K hK
      obtain ⟨o1, o2, o3⟩ := hG
      obtain ⟨_, ht5, rfl⟩ := hd 5 (by kernel_rfl) (by kernel_rfl)
      replace hf := hf.more ht5
      obtain ⟨_, ht7, rfl⟩ := hd 7 (by kernel_rfl) (by kernel_rfl)
      replace hf := hf.more ht7
      obtain ⟨_, ht9, rfl⟩ := hd 9 (by kernel_rfl) (by kernel_rfl)
      replace hf := hf.more ht9
      exact dv_ hK hw (wn rfl) (r_build_arr (vs := [(0, vI a0.n), (1, vI a0.m), (2, vI a0.k)]) (res := (cVec3.enc (#v[a0.n, a0.m, a0.k] : Vec3)).toArray) Try.underlying84 sz2 ze84 hf rfl rfl ((fill_lens (d := cVec3) (z := zVec3) (Lens.vec 0 fI64 (0 : Int) (by decide) (by decide)) rfl rfl).trans ((fill_lens (d := cVec3) (z := vs zVec3 0 a0.n) (Lens.vec 0 fI64 (1 : Int) (by decide) (by decide)) rfl rfl).trans ((fill_lens (d := cVec3) (z := vs (vs zVec3 0 a0.n) 1 a0.m) (Lens.vec 0 fI64 (2 : Int) (by decide) (by decide)) rfl rfl).trans rfl)))) rfl
    · intro c ρ w a hs hw hG hf hd K hK
      obtain ⟨o1, o2, o3⟩ := hG
      have o6 : Ow (Kd.slice 2 (kf fI64)) 36 ρ w w0.heap.size 6 (.slice none 0 0) [] := Ow.nil _ _ _ _ _ _
      have o7 : Ow (Kd.slice 2 (kf fI64)) 36 ρ w w0.heap.size 7 (.slice none 0 0) [] := Ow.nil _ _ _ _ _ _
      have o8 : Ow (Kd.slice 2 (kf fI64)) 36 ρ w w0.heap.size 8 (.slice none 0 0) [] := Ow.nil _ _ _ _ _ _
      exact dv_ hK hw (wn rfl) (r_build_arr (vs := []) (res := ([(.slice none 0 0), (.slice none 0 0), (.slice none 0 0)]).toArray) Try.underlying97 sz24 ze97 hf rfl rfl rfl) (an_ rfl <| an_ o6 <| an_ o7 <| o8)
    · intro c ρ w a hs hw hG hf hd K hK
      obtain ⟨o1, o2, o3⟩ := hG
      have o10 : Ow (Kd.slice 2 (kf fI64)) 36 ρ w w0.heap.size 10 (.slice none 0 0) [] := Ow.nil _ _ _ _ _ _
      have o11 : Ow (Kd.slice 2 (kf fI64)) 36 ρ w w0.heap.size 11 (.slice none 0 0) [] := Ow.nil _ _ _ _ _ _
      have o12 : Ow (Kd.slice 2 (kf fI64)) 36 ρ w w0.heap.size 12 (.slice none 0 0) [] := Ow.nil _ _ _ _ _ _
      refine dx_ hK hw (wn rfl) (r_alloc (cs := [(.slice none 0 0), (.slice none 0 0), (.slice none 0 0)]) 9 ze97 rfl hw) fun v w' hΦ => ?_
      obtain ⟨g9, ρ, rfl, hw, hE, o9⟩ := hΦ
      exact ⟨_, hw, hE, ex_ <| an_ rfl <| an_ (fun _ => o9) <| fun hc => absurd (hs 0 (by decide) (by kernel_rfl)) (Nat.not_le_of_lt hc)⟩
    · intro c ρ w a hs hw hG hf hd K hK
      obtain ⟨o1, o2, o3⟩ := hG
      refine dx_ hK hw (wn rfl) (r_alloc (cs := cVec3.enc zVec3) 13 ze84 rfl hw) fun v w' hΦ => ?_
      obtain ⟨g13, ρ, rfl, hw, hE, o13⟩ := hΦ
      exact ⟨_, hw, hE, ex_ <| an_ rfl <| an_ (fun _ => o13) <| fun hc => absurd (hs 1 (by decide) (by kernel_rfl)) (Nat.not_le_of_lt hc)⟩
    · intro c ρ w a hs hw hG hf hd K hK
      obtain ⟨o1, o2, o3⟩ := hG
      have o15 : Ow (Kd.slice 2 (kf fI64)) 36 ρ w w0.heap.size 15 (.slice none 0 0) [] := Ow.nil _ _ _ _ _ _
      have o16 : Ow (Kd.slice 2 (kf fI64)) 36 ρ w w0.heap.size 16 (.slice none 0 0) [] := Ow.nil _ _ _ _ _ _
      have o17 : Ow (Kd.slice 2 (kf fI64)) 36 ρ w w0.heap.size 17 (.slice none 0 0) [] := Ow.nil _ _ _ _ _ _
      refine dx_ hK hw (wn rfl) (r_alloc (cs := [(.slice none 0 0), (.slice none 0 0), (.slice none 0 0)]) 14 ze97 rfl hw) fun v w' hΦ => ?_
      obtain ⟨g14, ρ, rfl, hw, hE, o14⟩ := hΦ
      replace o15 := o15.ext hE
      replace o16 := o16.ext hE
      replace o17 := o17.ext hE
      exact ⟨_, hw, hE, ex_ <| an_ rfl <| an_ o14 <| an_ o15 <| an_ o16 <| o17⟩
    · intro ρ w a S hw hG hf hS hdep hSi K hK
      obtain ⟨o1, o2, o3⟩ := hG
      have hfL := hf
      obtain ⟨_, ht3, rfl⟩ := hS 3 (by decide) (hdep 3 (by kernel_rfl)) (by kernel_rfl)
      replace hf := hf.more ht3
      obtain ⟨_, ht12, g9, rfl, hx12, hy12⟩ := hS 12 (by decide) (hdep 12 (by kernel_rfl)) (by kernel_rfl)
      have o9 := hx12 (by decide)
      replace hf := hf.more ht12
      refine m_skip (Γ := fun c ρ w => Va ρ w 1 g1 39 ([vI a0.p, vI a0.n, vI a0.m, vI a0.k, va0]) ∧ Va ρ w 2 g2 39 ([vI 0, vI 0, vI 0, vI 0, (.slice none 0 0)]) ∧ O82 ρ w w0 3 (.slice none 0 0) ([] : List Prod)) (Rl := [fun c ρ w v => va1 = v, fun c ρ w v => va2 = v, fun c ρ w v => va3 = v, fun c ρ w v => .agg ([va1, va2, va3]).toArray = v, fun c ρ w v => .pointer (some ((⟨g1, 0, none⟩ : Addr).add (0 + 1))) = v, fun c ρ w v => vI a0.n = v, fun c ρ w v => .pointer (some ((⟨g1, 0, none⟩ : Addr).add (0 + 2))) = v, fun c ρ w v => vI a0.m = v, fun c ρ w v => .pointer (some ((⟨g1, 0, none⟩ : Addr).add (0 + 3))) = v, fun c ρ w v => vI a0.k = v, fun c ρ w v => .agg (cVec3.enc (#v[a0.n, a0.m, a0.k] : Vec3)).toArray = v, fun c ρ w v => .agg ([(.slice none 0 0), (.slice none 0 0), (.slice none 0 0)]).toArray = v ∧ O36 ρ w w0 6 (.slice none 0 0) ([] : List (List Int)) ∧ O36 ρ w w0 7 (.slice none 0 0) ([] : List (List Int)) ∧ O36 ρ w w0 8 (.slice none 0 0) ([] : List (List Int)), fun c ρ w v => ∃ g9, .pointer (some ((⟨g9, 0, none⟩ : Addr).add 0)) = v ∧ (c ≤ 0 → Va ρ w 9 g9 97 ([(.slice none 0 0), (.slice none 0 0), (.slice none 0 0)])) ∧ (0 < c → Va ρ w 9 g9 97 ([va1, va2, va3])), fun c ρ w v => ∃ g13, .pointer (some ((⟨g13, 0, none⟩ : Addr).add 0)) = v ∧ (c ≤ 1 → Va ρ w 13 g13 84 (cVec3.enc zVec3)) ∧ (1 < c → Va ρ w 13 g13 84 (cVec3.enc (#v[a0.n, a0.m, a0.k] : Vec3))), fun c ρ w v => ∃ g14, .pointer (some ((⟨g14, 0, none⟩ : Addr).add 0)) = v ∧ Va ρ w 14 g14 97 ([(.slice none 0 0), (.slice none 0 0), (.slice none 0 0)]) ∧ O36 ρ w w0 15 (.slice none 0 0) ([] : List (List Int)) ∧ O36 ρ w w0 16 (.slice none 0 0) ([] : List (List Int)) ∧ O36 ρ w w0 17 (.slice none 0 0) ([] : List (List Int)), fun _ _ _ _ => True, fun _ _ _ _ => True]) hfL hS (by kernel_rfl) rfl (wn rfl) (r_store_w (cs' := [va1, va2, va3]) hw o9 (by decide) ty97 rfl rfl (one3 (h1.now hw).one (h2.now hw).one (h3.now hw).one) hf rfl rfl rfl) (fun w' hΦ => ?_) hK
      obtain ⟨hw, hA, o9⟩ := hΦ
      replace o1 := o1.adv hA (by decide)
      replace o2 := o2.adv hA (by decide)
      replace o3 := o3.adv hA (by decide)
      refine ⟨_, hw, ⟨o1, o2, o3⟩, ?_⟩
      · exact PassL.cons (fun h => h) <| PassL.cons (fun h => h) <| PassL.cons (fun h => h) <| PassL.cons (fun h => h) <| PassL.cons (fun h => h) <| PassL.cons (fun h => h) <| PassL.cons (fun h => h) <| PassL.cons (fun h => h) <| PassL.cons (fun h => h) <| PassL.cons (fun h => h) <| PassL.cons (fun h => h) <| PassL.cons (fun h => by obtain ⟨_, ht, h, o6, o7, o8⟩ := h; exact ⟨_, ht, h, o6.adv hA (by decide), o7.adv hA (by decide), o8.adv hA (by decide)⟩) <| PassL.cons (fun _ => ⟨_, ht12, _, rfl, fun h => absurd h (by decide), fun _ => o9⟩) <| PassL.cons (fun h => by obtain ⟨_, ht, g13, h, hx, hy⟩ := h; exact ⟨_, ht, _, h, fun _ => (hx (by decide)).adv hA (by decide), fun h => absurd h (by decide)⟩) <| PassL.cons (fun h => by obtain ⟨_, ht, g14, h, o14, o15, o16, o17⟩ := h; exact ⟨_, ht, _, h, o14.adv hA (by decide), o15.adv hA (by decide), o16.adv hA (by decide), o17.adv hA (by decide)⟩) <| PassL.here <| PassL.cons (fun h => h) <| PassL.nil
    · intro ρ w a S hw hG hf hS hdep hSi K hK
      obtain ⟨o1, o2, o3⟩ := hG
      have hfL := hf
      obtain ⟨_, ht10, rfl⟩ := hS 10 (by decide) (hdep 10 (by kernel_rfl)) (by kernel_rfl)
      replace hf := hf.more ht10
      obtain ⟨_, ht13, g13, rfl, hx13, hy13⟩ := hS 13 (by decide) (hdep 13 (by kernel_rfl)) (by kernel_rfl)
      have o13 := hx13 (by decide)
      replace hf := hf.more ht13
      refine m_skip (Γ := fun c ρ w => Va ρ w 1 g1 39 ([vI a0.p, vI a0.n, vI a0.m, vI a0.k, va0]) ∧ Va ρ w 2 g2 39 ([vI 0, vI 0, vI 0, vI 0, (.slice none 0 0)]) ∧ O82 ρ w w0 3 (.slice none 0 0) ([] : List Prod)) (Rl := [fun c ρ w v => va1 = v, fun c ρ w v => va2 = v, fun c ρ w v => va3 = v, fun c ρ w v => .agg ([va1, va2, va3]).toArray = v, fun c ρ w v => .pointer (some ((⟨g1, 0, none⟩ : Addr).add (0 + 1))) = v, fun c ρ w v => vI a0.n = v, fun c ρ w v => .pointer (some ((⟨g1, 0, none⟩ : Addr).add (0 + 2))) = v, fun c ρ w v => vI a0.m = v, fun c ρ w v => .pointer (some ((⟨g1, 0, none⟩ : Addr).add (0 + 3))) = v, fun c ρ w v => vI a0.k = v, fun c ρ w v => .agg (cVec3.enc (#v[a0.n, a0.m, a0.k] : Vec3)).toArray = v, fun c ρ w v => .agg ([(.slice none 0 0), (.slice none 0 0), (.slice none 0 0)]).toArray = v ∧ O36 ρ w w0 6 (.slice none 0 0) ([] : List (List Int)) ∧ O36 ρ w w0 7 (.slice none 0 0) ([] : List (List Int)) ∧ O36 ρ w w0 8 (.slice none 0 0) ([] : List (List Int)), fun c ρ w v => ∃ g9, .pointer (some ((⟨g9, 0, none⟩ : Addr).add 0)) = v ∧ (c ≤ 0 → Va ρ w 9 g9 97 ([(.slice none 0 0), (.slice none 0 0), (.slice none 0 0)])) ∧ (0 < c → Va ρ w 9 g9 97 ([va1, va2, va3])), fun c ρ w v => ∃ g13, .pointer (some ((⟨g13, 0, none⟩ : Addr).add 0)) = v ∧ (c ≤ 1 → Va ρ w 13 g13 84 (cVec3.enc zVec3)) ∧ (1 < c → Va ρ w 13 g13 84 (cVec3.enc (#v[a0.n, a0.m, a0.k] : Vec3))), fun c ρ w v => ∃ g14, .pointer (some ((⟨g14, 0, none⟩ : Addr).add 0)) = v ∧ Va ρ w 14 g14 97 ([(.slice none 0 0), (.slice none 0 0), (.slice none 0 0)]) ∧ O36 ρ w w0 15 (.slice none 0 0) ([] : List (List Int)) ∧ O36 ρ w w0 16 (.slice none 0 0) ([] : List (List Int)) ∧ O36 ρ w w0 17 (.slice none 0 0) ([] : List (List Int)), fun _ _ _ _ => True, fun _ _ _ _ => True]) hfL hS (by kernel_rfl) rfl (wn rfl) (r_store_w (cs' := cVec3.enc (#v[a0.n, a0.m, a0.k] : Vec3)) hw o13 (by decide) ty84 (cVec3.len _) (cVec3.len _) (cVec3.one _) hf rfl rfl rfl) (fun w' hΦ => ?_) hK
      obtain ⟨hw, hA, o13⟩ := hΦ
      replace o1 := o1.adv hA (by decide)
      replace o2 := o2.adv hA (by decide)
      replace o3 := o3.adv hA (by decide)
      refine ⟨_, hw, ⟨o1, o2, o3⟩, ?_⟩
      · exact PassL.cons (fun h => h) <| PassL.cons (fun h => h) <| PassL.cons (fun h => h) <| PassL.cons (fun h => h) <| PassL.cons (fun h => h) <| PassL.cons (fun h => h) <| PassL.cons (fun h => h) <| PassL.cons (fun h => h) <| PassL.cons (fun h => h) <| PassL.cons (fun h => h) <| PassL.cons (fun h => h) <| PassL.cons (fun h => by obtain ⟨_, ht, h, o6, o7, o8⟩ := h; exact ⟨_, ht, h, o6.adv hA (by decide), o7.adv hA (by decide), o8.adv hA (by decide)⟩) <| PassL.cons (fun h => by obtain ⟨_, ht, g9, h, hx, hy⟩ := h; exact ⟨_, ht, _, h, fun h => absurd h (by decide), fun _ => (by obtain o9 := hy (by decide); exact o9.adv hA (by decide))⟩) <| PassL.cons (fun _ => ⟨_, ht13, _, rfl, fun h => absurd h (by decide), fun _ => o13⟩) <| PassL.cons (fun h => by obtain ⟨_, ht, g14, h, o14, o15, o16, o17⟩ := h; exact ⟨_, ht, _, h, o14.adv hA (by decide), o15.adv hA (by decide), o16.adv hA (by decide), o17.adv hA (by decide)⟩) <| PassL.cons (fun h => h) <| PassL.here <| PassL.nil
  intro ρ w a hw hG hf hd
  obtain ⟨o1, o2, o3⟩ := hG
  obtain ⟨_, hf, ⟨rfl, o6, o7, o8⟩⟩ := got (hd 11 (by decide) (by kernel_rfl)) hf
  obtain ⟨_, ht, g9, rfl, hx, hy⟩ := hd 12 (by decide) (by kernel_rfl)
  obtain o9 := hy (by decide)
  replace hf := hf.more ht
  obtain ⟨_, ht, g13, rfl, hx, hy⟩ := hd 13 (by decide) (by kernel_rfl)
  obtain o13 := hy (by decide)
  replace hf := hf.more ht
  obtain ⟨_, hf, ⟨g14, rfl, o14, o15, o16, o17⟩⟩ := got (hd 14 (by decide) (by kernel_rfl)) hf
  refine sk_ hf (r_store_w (cs' := [(.slice none 0 0), (.slice none 0 0), (.slice none 0 0)]) hw o14 (by decide) ty97 rfl rfl (one3 o6.ro.one o7.ro.one o8.ro.one) hf rfl rfl rfl) fun a w hf hΦ => ?_
  obtain ⟨hw, hA, o14⟩ := hΦ
  replace o1 := o1.adv hA (by decide)
  replace o2 := o2.adv hA (by decide)
  replace o3 := o3.adv hA (by decide)
  replace o6 := o6.adv hA (by decide)
  replace o7 := o7.adv hA (by decide)
  replace o8 := o8.adv hA (by decide)
  replace o9 := o9.adv hA (by decide)
  replace o13 := o13.adv hA (by decide)
  replace o15 := o15.adv hA (by decide)
  replace o16 := o16.adv hA (by decide)
  replace o17 := o17.adv hA (by decide)
  refine c_nt <| c_seq <| c_seq <| c_region ?_
  refine s_ hf (r_assign hf rfl) fun a hf => ?_
  refine c_nt ?_
  refine c_block (c_unr ?_)
  refine c_seq <| c_seq <| c_region ?_
  refine s_ hf (r_move hf rfl) fun a hf => ?_
  refine s_ hf (r_fold (r_lss hf rfl rfl) (congrArg Value.bool (show decide ((0 : Int) < 3) = true by decide))) fun a hf => ?_
  refine c_nt <| c_true hf rfl <| c_skip <| n_then <| c_seq <| c_block <| c_seq ?_
  obtain ⟨s5, hT4, hG4⟩ := of_bind hF
  clear hF
  refine c_meet (fun (s5 : Bool) a w => ∃ ρ, Wd w0 ρ w ∧ Fr 78 a [(4, .pointer (some ((⟨g1, 0, none⟩ : Addr).add 0))), (8, .pointer (some ((⟨g2, 0, none⟩ : Addr).add 0))), (10, .pointer (some ((⟨g9, 0, none⟩ : Addr).add 0))), (11, .pointer (some ((⟨g13, 0, none⟩ : Addr).add 0))), (12, .pointer (some ((⟨g14, 0, none⟩ : Addr).add 0))), (13, vI 0), (53, .bool s5)] ∧ Va ρ w 1 g1 39 ([vI a0.p, vI a0.n, vI a0.m, vI a0.k, va0]) ∧ Va ρ w 2 g2 39 ([vI 0, vI 0, vI 0, vI 0, (.slice none 0 0)]) ∧ O82 ρ w w0 3 (.slice none 0 0) ([] : List Prod) ∧ O36 ρ w w0 6 (.slice none 0 0) ([] : List (List Int)) ∧ O36 ρ w w0 7 (.slice none 0 0) ([] : List (List Int)) ∧ O36 ρ w w0 8 (.slice none 0 0) ([] : List (List Int)) ∧ Va ρ w 9 g9 97 ([va1, va2, va3]) ∧ Va ρ w 13 g13 84 (cVec3.enc (#v[a0.n, a0.m, a0.k] : Vec3)) ∧ Va ρ w 14 g14 97 ([(.slice none 0 0), (.slice none 0 0), (.slice none 0 0)])) s5 ?_ ?_
  · have hF := hT4
    obtain ⟨x6, hx7, hF⟩ := of_bind hF
    rcases of_ite hF with ⟨hb8, hF⟩ | ⟨hb8, hF⟩
    · replace hf : Fr 78 a [(4, .pointer (some ((⟨g1, 0, none⟩ : Addr).add 0))), (8, .pointer (some ((⟨g2, 0, none⟩ : Addr).add 0))), (10, .pointer (some ((⟨g9, 0, none⟩ : Addr).add 0))), (11, .pointer (some ((⟨g13, 0, none⟩ : Addr).add 0))), (12, .pointer (some ((⟨g14, 0, none⟩ : Addr).add 0))), (13, vI 0)] := hf.sub ⟨rfl, rfl, rfl, rfl, rfl, rfl, trivial⟩
      refine c_drawL (h := 15) mixed (by kernel_rfl) (by kernel_rfl) (fun ρ w => Va ρ w 1 g1 39 ([vI a0.p, vI a0.n, vI a0.m, vI a0.k, va0]) ∧ Va ρ w 2 g2 39 ([vI 0, vI 0, vI 0, vI 0, (.slice none 0 0)]) ∧ O82 ρ w w0 3 (.slice none 0 0) ([] : List Prod) ∧ O36 ρ w w0 6 (.slice none 0 0) ([] : List (List Int)) ∧ O36 ρ w w0 7 (.slice none 0 0) ([] : List (List Int)) ∧ O36 ρ w w0 8 (.slice none 0 0) ([] : List (List Int)) ∧ Va ρ w 9 g9 97 ([va1, va2, va3]) ∧ Va ρ w 13 g13 84 (cVec3.enc (#v[a0.n, a0.m, a0.k] : Vec3)) ∧ Va ρ w 14 g14 97 ([(.slice none 0 0), (.slice none 0 0), (.slice none 0 0)])) ?_ [fun ρ w v => .pointer (some ((⟨g1, 0, none⟩ : Addr).add (0 + 0))) = v, fun ρ w v => vI a0.p = v, fun ρ w v => vI 0 = v, fun ρ w v => .pointer (some ((⟨g9, 0, none⟩ : Addr).add (0 + (0 : Int).toNat * 1))) = v, fun ρ w v => va1 = v, fun ρ w v => .bool x6 = v, fun ρ w v => .bool (!x6) = v, fun ρ w v => .bool (!x6) = v, fun ρ w v => undef = v, fun ρ w v => undef = v, fun ρ w v => undef = v, fun ρ w v => undef = v, fun ρ w v => undef = v, fun ρ w v => undef = v, fun ρ w v => undef = v] ?_ hw ⟨o1, o2, o3, o6, o7, o8, o9, o13, o14⟩ hf ?_ ?_
      · intro ρ w ρ' w' hE hG
        obtain ⟨o1, o2, o3, o6, o7, o8, o9, o13, o14⟩ := hG
        exact ⟨o1.ext hE, o2.ext hE, o3.ext hE, o6.ext hE, o7.ext hE, o8.ext hE, o9.ext hE, o13.ext hE, o14.ext hE⟩
      · exact LastsL.cons (fun _ _ _ _ _ _ h => h) <| LastsL.cons (fun _ _ _ _ _ _ h => h) <| LastsL.cons (fun _ _ _ _ _ _ h => h) <| LastsL.cons (fun _ _ _ _ _ _ h => h) <| LastsL.cons (fun _ _ _ _ _ _ h => h) <| LastsL.cons (fun _ _ _ _ _ _ h => h) <| LastsL.cons (fun _ _ _ _ _ _ h => h) <| LastsL.cons (fun _ _ _ _ _ _ h => h) <| LastsL.cons (fun _ _ _ _ _ _ h => h) <| LastsL.cons (fun _ _ _ _ _ _ h => h) <| LastsL.cons (fun _ _ _ _ _ _ h => h) <| LastsL.cons (fun _ _ _ _ _ _ h => h) <| LastsL.cons (fun _ _ _ _ _ _ h => h) <| LastsL.cons (fun _ _ _ _ _ _ h => h) <| LastsL.cons (fun _ _ _ _ _ _ h => h) <| LastsL.nil
      · refine StepsB.cons ?_ <| StepsB.cons ?_ <| StepsB.cons ?_ <| StepsB.cons ?_ <| StepsB.cons ?_ <| StepsB.cons ?_ <| StepsB.cons ?_ <| StepsB.cons ?_ <| StepsB.cons ?_ <| StepsB.cons ?_ <| StepsB.cons ?_ <| StepsB.cons ?_ <| StepsB.cons ?_ <| StepsB.cons ?_ <| StepsB.cons ?_ <| StepsB.nil
        · intro ρ w a hw hG hf hd K hK
          obtain ⟨o1, o2, o3, o6, o7, o8, o9, o13, o14⟩ := hG
          exact dv_ hK hw (wn rfl) (r_fa fa39_0 hf rfl) rfl
        · intro ρ w a hw hG hf hd K hK
          obtain ⟨o1, o2, o3, o6, o7, o8, o9, o13, o14⟩ := hG
          obtain ⟨_, hf, rfl⟩ := got (hd 0 (by kernel_rfl)) hf
          exact dv_ hK hw (wn rfl) (r_load_cell ty2 hf rfl (o1.cl.at_ 0 _ rfl)) rfl
        · intro ρ w a hw hG hf hd K hK
          obtain ⟨o1, o2, o3, o6, o7, o8, o9, o13, o14⟩ := hG
          exact dv_ hK hw (wn rfl) (r_move hf rfl) rfl
        · intro ρ w a hw hG hf hd K hK
          obtain ⟨o1, o2, o3, o6, o7, o8, o9, o13, o14⟩ := hG
          obtain ⟨_, hf, rfl⟩ := got (hd 2 (by kernel_rfl)) hf
          exact dv_ hK hw (wn rfl) (r_indexAddr_arr Try.underlying97 sz24 hf rfl rfl (by decide) (by decide)) rfl
        · intro ρ w a hw hG hf hd K hK
          obtain ⟨o1, o2, o3, o6, o7, o8, o9, o13, o14⟩ := hG
          obtain ⟨_, hf, rfl⟩ := got (hd 3 (by kernel_rfl)) hf
          exact dv_ hK hw (wn rfl) (r_load_cell ty24 hf rfl (o9.cl.at_ 0 _ rfl)) rfl
        · intro ρ w a hw hG hf hd K hK
          obtain ⟨o1, o2, o3, o6, o7, o8, o9, o13, o14⟩ := hG
          obtain ⟨_, hf, rfl⟩ := got (hd 1 (by kernel_rfl)) hf
          obtain ⟨_, hf, rfl⟩ := got (hd 4 (by kernel_rfl)) hf
          refine dc_ hK hw (wn rfl) (r_fn en56 hf rfl) (spec_l04Square_ok (h1.now hw) hx7) fun v w' hΦ => ?_
          obtain ⟨hb, hΦ⟩ := hΦ
          obtain rfl := hΦ
          have hE := Ext.new (ρ := ρ) 18 hb
          exact ⟨_, hw.new 18 hb, hE, rfl⟩
        · intro ρ w a hw hG hf hd K hK
          obtain ⟨o1, o2, o3, o6, o7, o8, o9, o13, o14⟩ := hG
          obtain ⟨_, hf, rfl⟩ := got (hd 5 (by kernel_rfl)) hf
          exact dv_ hK hw (wn rfl) (r_not hf rfl) rfl
        · intro ρ w a hw hG hf hd K hK
          obtain ⟨o1, o2, o3, o6, o7, o8, o9, o13, o14⟩ := hG
          obtain ⟨_, hf, rfl⟩ := got (hd 6 (by kernel_rfl)) hf
          exact dv_ hK hw (wn rfl) (r_move hf rfl) rfl
        · intro ρ w a hw hG hf hd K hK
          obtain ⟨o1, o2, o3, o6, o7, o8, o9, o13, o14⟩ := hG
          obtain ⟨_, hf, rfl⟩ := got (hd 7 (by kernel_rfl)) hf
          exact do_ hK (b := true) hw hf rfl rfl rfl hb8 rfl rfl
        · intro ρ w a hw hG hf hd K hK
          obtain ⟨o1, o2, o3, o6, o7, o8, o9, o13, o14⟩ := hG
          obtain ⟨_, hf, rfl⟩ := got (hd 7 (by kernel_rfl)) hf
          obtain ⟨_, hf, rfl⟩ := got (hd 8 (by kernel_rfl)) hf
          exact do_ hK (b := true) hw hf rfl rfl rfl hb8 rfl rfl
        · intro ρ w a hw hG hf hd K hK
          obtain ⟨o1, o2, o3, o6, o7, o8, o9, o13, o14⟩ := hG
          obtain ⟨_, hf, rfl⟩ := got (hd 7 (by kernel_rfl)) hf
          obtain ⟨_, hf, rfl⟩ := got (hd 9 (by kernel_rfl)) hf
          exact do_ hK (b := true) hw hf rfl rfl rfl hb8 rfl rfl
        · intro ρ w a hw hG hf hd K hK
          obtain ⟨o1, o2, o3, o6, o7, o8, o9, o13, o14⟩ := hG
          obtain ⟨_, hf, rfl⟩ := got (hd 7 (by kernel_rfl)) hf
          obtain ⟨_, hf, rfl⟩ := got (hd 10 (by kernel_rfl)) hf
          exact do_ hK (b := true) hw hf rfl rfl rfl hb8 rfl rfl
        · intro ρ w a hw hG hf hd K hK
          obtain ⟨o1, o2, o3, o6, o7, o8, o9, o13, o14⟩ := hG
          obtain ⟨_, hf, rfl⟩ := got (hd 7 (by kernel_rfl)) hf
          exact do_ hK (b := true) hw hf rfl rfl rfl hb8 rfl rfl
        · intro ρ w a hw hG hf hd K hK
          obtain ⟨o1, o2, o3, o6, o7, o8, o9, o13, o14⟩ := hG
          obtain ⟨_, hf, rfl⟩ := got (hd 7 (by kernel_rfl)) hf
          obtain ⟨_, hf, rfl⟩ := got (hd 12 (by kernel_rfl)) hf
          exact do_ hK (b := true) hw hf rfl rfl rfl hb8 rfl rfl
        · intro ρ w a hw hG hf hd K hK
          obtain ⟨o1, o2, o3, o6, o7, o8, o9, o13, o14⟩ := hG
          obtain ⟨_, hf, rfl⟩ := got (hd 7 (by kernel_rfl)) hf
          obtain ⟨_, hf, rfl⟩ := got (hd 13 (by kernel_rfl)) hf
          exact do_ hK (b := true) hw hf rfl rfl rfl hb8 rfl rfl
      intro ρ w a hw hG hf hd
      obtain ⟨o1, o2, o3, o6, o7, o8, o9, o13, o14⟩ := hG
      obtain ⟨_, hf, rfl⟩ := got (hd 7 (by decide)) hf
      obtain ⟨_, hf, rfl⟩ := got (hd 11 (by decide)) hf
      obtain ⟨_, hf, rfl⟩ := got (hd 14 (by decide)) hf
      refine st_no (b := true) hf rfl rfl rfl hb8 rfl (by decide) fun a hf => ?_
      refine s_ hf (r_pick (b := true) hf rfl hb8 rfl) fun a hf => ?_
      refine c_nil ⟨rfl, ?_⟩
      obtain rfl := Option.some.inj hF
      exact ⟨_, hw, hf.sub ⟨rfl, rfl, rfl, rfl, rfl, rfl, rfl, trivial⟩, o1, o2, o3, o6, o7, o8, o9, o13, o14⟩
    replace hf : Fr 78 a [(4, .pointer (some ((⟨g1, 0, none⟩ : Addr).add 0))), (8, .pointer (some ((⟨g2, 0, none⟩ : Addr).add 0))), (10, .pointer (some ((⟨g9, 0, none⟩ : Addr).add 0))), (11, .pointer (some ((⟨g13, 0, none⟩ : Addr).add 0))), (12, .pointer (some ((⟨g14, 0, none⟩ : Addr).add 0))), (13, vI 0)] := hf.sub ⟨rfl, rfl, rfl, rfl, rfl, rfl, trivial⟩
    refine c_drawL (h := 15) mixed (by kernel_rfl) (by kernel_rfl) (fun ρ w => Va ρ w 1 g1 39 ([vI a0.p, vI a0.n, vI a0.m, vI a0.k, va0]) ∧ Va ρ w 2 g2 39 ([vI 0, vI 0, vI 0, vI 0, (.slice none 0 0)]) ∧ O82 ρ w w0 3 (.slice none 0 0) ([] : List Prod) ∧ O36 ρ w w0 6 (.slice none 0 0) ([] : List (List Int)) ∧ O36 ρ w w0 7 (.slice none 0 0) ([] : List (List Int)) ∧ O36 ρ w w0 8 (.slice none 0 0) ([] : List (List Int)) ∧ Va ρ w 9 g9 97 ([va1, va2, va3]) ∧ Va ρ w 13 g13 84 (cVec3.enc (#v[a0.n, a0.m, a0.k] : Vec3)) ∧ Va ρ w 14 g14 97 ([(.slice none 0 0), (.slice none 0 0), (.slice none 0 0)])) ?_ [fun ρ w v => .pointer (some ((⟨g1, 0, none⟩ : Addr).add (0 + 0))) = v, fun ρ w v => vI a0.p = v, fun ρ w v => vI 0 = v, fun ρ w v => .pointer (some ((⟨g9, 0, none⟩ : Addr).add (0 + (0 : Int).toNat * 1))) = v, fun ρ w v => va1 = v, fun ρ w v => .bool x6 = v, fun ρ w v => .bool (!x6) = v, fun ρ w v => .bool (!x6) = v, fun ρ w v => vI 0 = v, fun ρ w v => .pointer (some ((⟨g9, 0, none⟩ : Addr).add (0 + (0 : Int).toNat * 1))) = v, fun ρ w v => va1 = v, fun ρ w v => vI (a1.length : Int) = v, fun ρ w v => vI 0 = v, fun ρ w v => .pointer (some ((⟨g13, 0, none⟩ : Addr).add (0 + (0 : Int).toNat * 1))) = v, fun ρ w v => vI (vg 0 (#v[a0.n, a0.m, a0.k] : Vec3) 0) = v] ?_ hw ⟨o1, o2, o3, o6, o7, o8, o9, o13, o14⟩ hf ?_ ?_
    · intro ρ w ρ' w' hE hG
      obtain ⟨o1, o2, o3, o6, o7, o8, o9, o13, o14⟩ := hG
      exact ⟨o1.ext hE, o2.ext hE, o3.ext hE, o6.ext hE, o7.ext hE, o8.ext hE, o9.ext hE, o13.ext hE, o14.ext hE⟩
    · exact LastsL.cons (fun _ _ _ _ _ _ h => h) <| LastsL.cons (fun _ _ _ _ _ _ h => h) <| LastsL.cons (fun _ _ _ _ _ _ h => h) <| LastsL.cons (fun _ _ _ _ _ _ h => h) <| LastsL.cons (fun _ _ _ _ _ _ h => h) <| LastsL.cons (fun _ _ _ _ _ _ h => h) <| LastsL.cons (fun _ _ _ _ _ _ h => h) <| LastsL.cons (fun _ _ _ _ _ _ h => h) <| LastsL.cons (fun _ _ _ _ _ _ h => h) <| LastsL.cons (fun _ _ _ _ _ _ h => h) <| LastsL.cons (fun _ _ _ _ _ _ h => h) <| LastsL.cons (fun _ _ _ _ _ _ h => h) <| LastsL.cons (fun _ _ _ _ _ _ h => h) <| LastsL.cons (fun _ _ _ _ _ _ h => h) <| LastsL.cons (fun _ _ _ _ _ _ h => h) <| LastsL.nil
    · refine StepsB.cons ?_ <| StepsB.cons ?_ <| StepsB.cons ?_ <| StepsB.cons ?_ <| StepsB.cons ?_ <| StepsB.cons ?_ <| StepsB.cons ?_ <| StepsB.cons ?_ <| StepsB.cons ?_ <| StepsB.cons ?_ <| StepsB.cons ?_ <| StepsB.cons ?_ <| StepsB.cons ?_ <| StepsB.cons ?_ <| StepsB.cons ?_ <| StepsB.nil
      · intro ρ w a hw hG hf hd K hK
        obtain ⟨o1, o2, o3, o6, o7, o8, o9, o13, o14⟩ := hG
        exact dv_ hK hw (wn rfl) (r_fa fa39_0 hf rfl) rfl
      · intro ρ w a hw hG hf hd K hK
        obtain ⟨o1, o2, o3, o6, o7, o8, o9, o13, o14⟩ := hG
        obtain ⟨_, hf, rfl⟩ := got (hd 0 (by kernel_rfl)) hf
        exact dv_ hK hw (wn rfl) (r_load_cell ty2 hf rfl (o1.cl.at_ 0 _ rfl)) rfl
      · intro ρ w a hw hG hf hd K hK
        obtain ⟨o1, o2, o3, o6, o7, o8, o9, o13, o14⟩ := hG
        exact dv_ hK hw (wn rfl) (r_move hf rfl) rfl
      · intro ρ w a hw hG hf hd K hK
        obtain ⟨o1, o2, o3, o6, o7, o8, o9, o13, o14⟩ := hG
        obtain ⟨_, hf, rfl⟩ := got (hd 2 (by kernel_rfl)) hf
        exact dv_ hK hw (wn rfl) (r_indexAddr_arr Try.underlying97 sz24 hf rfl rfl (by decide) (by decide)) rfl
      · intro ρ w a hw hG hf hd K hK
        obtain ⟨o1, o2, o3, o6, o7, o8, o9, o13, o14⟩ := hG
        obtain ⟨_, hf, rfl⟩ := got (hd 3 (by kernel_rfl)) hf
        exact dv_ hK hw (wn rfl) (r_load_cell ty24 hf rfl (o9.cl.at_ 0 _ rfl)) rfl
      · intro ρ w a hw hG hf hd K hK
        obtain ⟨o1, o2, o3, o6, o7, o8, o9, o13, o14⟩ := hG
        obtain ⟨_, hf, rfl⟩ := got (hd 1 (by kernel_rfl)) hf
        obtain ⟨_, hf, rfl⟩ := got (hd 4 (by kernel_rfl)) hf
        refine dc_ hK hw (wn rfl) (r_fn en56 hf rfl) (spec_l04Square_ok (h1.now hw) hx7) fun v w' hΦ => ?_
        obtain ⟨hb, hΦ⟩ := hΦ
        obtain rfl := hΦ
        have hE := Ext.new (ρ := ρ) 18 hb
        exact ⟨_, hw.new 18 hb, hE, rfl⟩
      · intro ρ w a hw hG hf hd K hK
        obtain ⟨o1, o2, o3, o6, o7, o8, o9, o13, o14⟩ := hG
        obtain ⟨_, hf, rfl⟩ := got (hd 5 (by kernel_rfl)) hf
        exact dv_ hK hw (wn rfl) (r_not hf rfl) rfl
      · intro ρ w a hw hG hf hd K hK
        obtain ⟨o1, o2, o3, o6, o7, o8, o9, o13, o14⟩ := hG
        obtain ⟨_, hf, rfl⟩ := got (hd 6 (by kernel_rfl)) hf
        exact dv_ hK hw (wn rfl) (r_move hf rfl) rfl
      · intro ρ w a hw hG hf hd K hK
        obtain ⟨o1, o2, o3, o6, o7, o8, o9, o13, o14⟩ := hG
        obtain ⟨_, hf, rfl⟩ := got (hd 7 (by kernel_rfl)) hf
        exact dv_ hK hw (wg (b := false) hf rfl rfl rfl hb8) (r_move hf rfl) rfl
      · intro ρ w a hw hG hf hd K hK
        obtain ⟨o1, o2, o3, o6, o7, o8, o9, o13, o14⟩ := hG
        obtain ⟨_, hf, rfl⟩ := got (hd 7 (by kernel_rfl)) hf
        obtain ⟨_, hf, rfl⟩ := got (hd 8 (by kernel_rfl)) hf
        exact dv_ hK hw (wg (b := false) hf rfl rfl rfl hb8) (r_indexAddr_arr Try.underlying97 sz24 hf rfl rfl (by decide) (by decide)) rfl
      · intro ρ w a hw hG hf hd K hK
        obtain ⟨o1, o2, o3, o6, o7, o8, o9, o13, o14⟩ := hG
        obtain ⟨_, hf, rfl⟩ := got (hd 7 (by kernel_rfl)) hf
        obtain ⟨_, hf, rfl⟩ := got (hd 9 (by kernel_rfl)) hf
        exact dv_ hK hw (wg (b := false) hf rfl rfl rfl hb8) (r_load_cell ty24 hf rfl (o9.cl.at_ 0 _ rfl)) rfl
      · intro ρ w a hw hG hf hd K hK
        obtain ⟨o1, o2, o3, o6, o7, o8, o9, o13, o14⟩ := hG
        obtain ⟨_, hf, rfl⟩ := got (hd 7 (by kernel_rfl)) hf
        obtain ⟨_, hf, rfl⟩ := got (hd 10 (by kernel_rfl)) hf
        exact dv_ hK hw (wg (b := false) hf rfl rfl rfl hb8) (r_len Try.underlying24 (h1.now hw) hf rfl) rfl
      · intro ρ w a hw hG hf hd K hK
        obtain ⟨o1, o2, o3, o6, o7, o8, o9, o13, o14⟩ := hG
        obtain ⟨_, hf, rfl⟩ := got (hd 7 (by kernel_rfl)) hf
        exact dv_ hK hw (wg (b := false) hf rfl rfl rfl hb8) (r_move hf rfl) rfl
      · intro ρ w a hw hG hf hd K hK
        obtain ⟨o1, o2, o3, o6, o7, o8, o9, o13, o14⟩ := hG
        obtain ⟨_, hf, rfl⟩ := got (hd 7 (by kernel_rfl)) hf
        obtain ⟨_, hf, rfl⟩ := got (hd 12 (by kernel_rfl)) hf
        exact dv_ hK hw (wg (b := false) hf rfl rfl rfl hb8) (r_indexAddr_arr Try.underlying84 sz2 hf rfl rfl (by decide) (by decide)) rfl
      · intro ρ w a hw hG hf hd K hK
        obtain ⟨o1, o2, o3, o6, o7, o8, o9, o13, o14⟩ := hG
        obtain ⟨_, hf, rfl⟩ := got (hd 7 (by kernel_rfl)) hf
        obtain ⟨_, hf, rfl⟩ := got (hd 13 (by kernel_rfl)) hf
        exact dv_ hK hw (wg (b := false) hf rfl rfl rfl hb8) (r_load_cell ty2 hf rfl (o13.cl.lens (Lens.vec 0 fI64 0 (by decide) (by decide)))) rfl
    intro ρ w a hw hG hf hd
    obtain ⟨o1, o2, o3, o6, o7, o8, o9, o13, o14⟩ := hG
    obtain ⟨_, hf, rfl⟩ := got (hd 7 (by decide)) hf
    obtain ⟨_, hf, rfl⟩ := got (hd 11 (by decide)) hf
    obtain ⟨_, hf, rfl⟩ := got (hd 14 (by decide)) hf
    refine st_g (b := false) hf rfl rfl rfl hb8 rfl (by decide) (r_neq hf rfl rfl) fun a hf => ?_
    refine s_ hf (r_pick (b := false) hf rfl hb8 rfl) fun a hf => ?_
    refine c_nil ⟨rfl, ?_⟩
    obtain rfl := Option.some.inj hF
    exact ⟨_, hw, hf.sub ⟨rfl, rfl, rfl, rfl, rfl, rfl, rfl, trivial⟩, o1, o2, o3, o6, o7, o8, o9, o13, o14⟩
  rintro a w ⟨ρ, hw, hf, o1, o2, o3, o6, o7, o8, o9, o13, o14⟩
  have hF := hG4
  refine n_then ?_
  rcases of_ite hF with ⟨hb9, hF⟩ | ⟨hb9, hF⟩
  · refine c_ift hf rfl hb9 <| c_seq <| c_region ?_
    have o19 : Ow (kf cProd) 82 ρ w w0.heap.size 19 (.slice none 0 0) [] := Ow.nil _ _ _ _ _ _
    refine s_ hf (r_build_struct (pl := [(0, 1), (1, 1), (2, 1), (3, 1), (4, 1)]) (vs := []) (res := ([vI 0, vI 0, vI 0, vI 0, (.slice none 0 0)]).toArray) Try.underlying39 (by kernel_rfl) ze39 hf rfl rfl rfl) fun a hf => ?_
    refine sk_ hf (r_store_w (cs' := [vI 0, vI 0, vI 0, vI 0, (.slice none 0 0)]) hw o2 (by decide) ty39 rfl rfl (one_sch o19.ro.one) hf rfl rfl rfl) fun a w hf hΦ => ?_
    obtain ⟨hw, hA, o2⟩ := hΦ
    replace o1 := o1.adv hA (by decide)
    replace o3 := o3.adv hA (by decide)
    replace o6 := o6.adv hA (by decide)
    replace o7 := o7.adv hA (by decide)
    replace o8 := o8.adv hA (by decide)
    replace o9 := o9.adv hA (by decide)
    replace o13 := o13.adv hA (by decide)
    replace o14 := o14.adv hA (by decide)
    replace o19 := o19.adv hA (by decide)
    refine s_ hf (r_assign hf rfl) fun a hf => ?_
    refine c_nt <| c_retc ?_
    obtain rfl := Option.some.inj hF
    refine r_block <| r_then ?_
    refine u_r ?_
    refine r_block <| r_then <| c_ret hf (res_ct Try.results44 ty39 hf rfl o2.cl rfl rfl) ?_
    exact ⟨_, rfl, hw.below, ⟨_, rfl, o19.out⟩⟩
  refine c_iff hf rfl hb9 <| c_skip <| n_block <| n_then <| c_region ?_
  refine s_ hf (r_move hf rfl) fun a hf => ?_
  refine s_ hf (r_fold (r_add hf rfl rfl) (congrArg (Value.int .i64) (show w64 ((0 : Int) + 1) = 1 from (w64_id (by decide) (by decide)).trans (by decide)))) fun a hf => ?_
  refine s_ hf (r_assign hf rfl) fun a hf => ?_
  refine c_nil ?_
  replace hf : Fr 78 a [(4, .pointer (some ((⟨g1, 0, none⟩ : Addr).add 0))), (8, .pointer (some ((⟨g2, 0, none⟩ : Addr).add 0))), (10, .pointer (some ((⟨g9, 0, none⟩ : Addr).add 0))), (11, .pointer (some ((⟨g13, 0, none⟩ : Addr).add 0))), (12, .pointer (some ((⟨g14, 0, none⟩ : Addr).add 0))), (13, vI 1)] := hf.sub ⟨rfl, rfl, rfl, rfl, rfl, rfl, trivial⟩
  refine u_n ?_
  refine c_seq <| c_seq <| c_region ?_
  refine s_ hf (r_move hf rfl) fun a hf => ?_
  refine s_ hf (r_fold (r_lss hf rfl rfl) (congrArg Value.bool (show decide ((1 : Int) < 3) = true by decide))) fun a hf => ?_
  refine c_nt <| c_true hf rfl <| c_skip <| n_then <| c_seq <| c_block <| c_seq ?_
  obtain ⟨s11, hT10, hG10⟩ := of_bind hF
  clear hF
  refine c_meet (fun (s11 : Bool) a w => ∃ ρ, Wd w0 ρ w ∧ Fr 78 a [(4, .pointer (some ((⟨g1, 0, none⟩ : Addr).add 0))), (8, .pointer (some ((⟨g2, 0, none⟩ : Addr).add 0))), (10, .pointer (some ((⟨g9, 0, none⟩ : Addr).add 0))), (11, .pointer (some ((⟨g13, 0, none⟩ : Addr).add 0))), (12, .pointer (some ((⟨g14, 0, none⟩ : Addr).add 0))), (13, vI 1), (53, .bool s11)] ∧ Va ρ w 1 g1 39 ([vI a0.p, vI a0.n, vI a0.m, vI a0.k, va0]) ∧ Va ρ w 2 g2 39 ([vI 0, vI 0, vI 0, vI 0, (.slice none 0 0)]) ∧ O82 ρ w w0 3 (.slice none 0 0) ([] : List Prod) ∧ O36 ρ w w0 6 (.slice none 0 0) ([] : List (List Int)) ∧ O36 ρ w w0 7 (.slice none 0 0) ([] : List (List Int)) ∧ O36 ρ w w0 8 (.slice none 0 0) ([] : List (List Int)) ∧ Va ρ w 9 g9 97 ([va1, va2, va3]) ∧ Va ρ w 13 g13 84 (cVec3.enc (#v[a0.n, a0.m, a0.k] : Vec3)) ∧ Va ρ w 14 g14 97 ([(.slice none 0 0), (.slice none 0 0), (.slice none 0 0)])) s11 ?_ ?_
  · have hF := hT10
    obtain ⟨x12, hx13, hF⟩ := of_bind hF
    rcases of_ite hF with ⟨hb14, hF⟩ | ⟨hb14, hF⟩
    · replace hf : Fr 78 a [(4, .pointer (some ((⟨g1, 0, none⟩ : Addr).add 0))), (8, .pointer (some ((⟨g2, 0, none⟩ : Addr).add 0))), (10, .pointer (some ((⟨g9, 0, none⟩ : Addr).add 0))), (11, .pointer (some ((⟨g13, 0, none⟩ : Addr).add 0))), (12, .pointer (some ((⟨g14, 0, none⟩ : Addr).add 0))), (13, vI 1)] := hf.sub ⟨rfl, rfl, rfl, rfl, rfl, rfl, trivial⟩
      refine c_drawL (h := 15) mixed (by kernel_rfl) (by kernel_rfl) (fun ρ w => Va ρ w 1 g1 39 ([vI a0.p, vI a0.n, vI a0.m, vI a0.k, va0]) ∧ Va ρ w 2 g2 39 ([vI 0, vI 0, vI 0, vI 0, (.slice none 0 0)]) ∧ O82 ρ w w0 3 (.slice none 0 0) ([] : List Prod) ∧ O36 ρ w w0 6 (.slice none 0 0) ([] : List (List Int)) ∧ O36 ρ w w0 7 (.slice none 0 0) ([] : List (List Int)) ∧ O36 ρ w w0 8 (.slice none 0 0) ([] : List (List Int)) ∧ Va ρ w 9 g9 97 ([va1, va2, va3]) ∧ Va ρ w 13 g13 84 (cVec3.enc (#v[a0.n, a0.m, a0.k] : Vec3)) ∧ Va ρ w 14 g14 97 ([(.slice none 0 0), (.slice none 0 0), (.slice none 0 0)])) ?_ [fun ρ w v => .pointer (some ((⟨g1, 0, none⟩ : Addr).add (0 + 0))) = v, fun ρ w v => vI a0.p = v, fun ρ w v => vI 1 = v, fun ρ w v => .pointer (some ((⟨g9, 0, none⟩ : Addr).add (0 + (1 : Int).toNat * 1))) = v, fun ρ w v => va2 = v, fun ρ w v => .bool x12 = v, fun ρ w v => .bool (!x12) = v, fun ρ w v => .bool (!x12) = v, fun ρ w v => undef = v, fun ρ w v => undef = v, fun ρ w v => undef = v, fun ρ w v => undef = v, fun ρ w v => undef = v, fun ρ w v => undef = v, fun ρ w v => undef = v] ?_ hw ⟨o1, o2, o3, o6, o7, o8, o9, o13, o14⟩ hf ?_ ?_
      · intro ρ w ρ' w' hE hG
        obtain ⟨o1, o2, o3, o6, o7, o8, o9, o13, o14⟩ := hG
        exact ⟨o1.ext hE, o2.ext hE, o3.ext hE, o6.ext hE, o7.ext hE, o8.ext hE, o9.ext hE, o13.ext hE, o14.ext hE⟩
      · exact LastsL.cons (fun _ _ _ _ _ _ h => h) <| LastsL.cons (fun _ _ _ _ _ _ h => h) <| LastsL.cons (fun _ _ _ _ _ _ h => h) <| LastsL.cons (fun _ _ _ _ _ _ h => h) <| LastsL.cons (fun _ _ _ _ _ _ h => h) <| LastsL.cons (fun _ _ _ _ _ _ h => h) <| LastsL.cons (fun _ _ _ _ _ _ h => h) <| LastsL.cons (fun _ _ _ _ _ _ h => h) <| LastsL.cons (fun _ _ _ _ _ _ h => h) <| LastsL.cons (fun _ _ _ _ _ _ h => h) <| LastsL.cons (fun _ _ _ _ _ _ h => h) <| LastsL.cons (fun _ _ _ _ _ _ h => h) <| LastsL.cons (fun _ _ _ _ _ _ h => h) <| LastsL.cons (fun _ _ _ _ _ _ h => h) <| LastsL.cons (fun _ _ _ _ _ _ h => h) <| LastsL.nil
      · refine StepsB.cons ?_ <| StepsB.cons ?_ <| StepsB.cons ?_ <| StepsB.cons ?_ <| StepsB.cons ?_ <| StepsB.cons ?_ <| StepsB.cons ?_ <| StepsB.cons ?_ <| StepsB.cons ?_ <| StepsB.cons ?_ <| StepsB.cons ?_ <| StepsB.cons ?_ <| StepsB.cons ?_ <| StepsB.cons ?_ <| StepsB.cons ?_ <| StepsB.nil
        · intro ρ w a hw hG hf hd K hK
          obtain ⟨o1, o2, o3, o6, o7, o8, o9, o13, o14⟩ := hG
          exact dv_ hK hw (wn rfl) (r_fa fa39_0 hf rfl) rfl
        · intro ρ w a hw hG hf hd K hK
          obtain ⟨o1, o2, o3, o6, o7, o8, o9, o13, o14⟩ := hG
          obtain ⟨_, hf, rfl⟩ := got (hd 0 (by kernel_rfl)) hf
          exact dv_ hK hw (wn rfl) (r_load_cell ty2 hf rfl (o1.cl.at_ 0 _ rfl)) rfl
        · intro ρ w a hw hG hf hd K hK
          obtain ⟨o1, o2, o3, o6, o7, o8, o9, o13, o14⟩ := hG
          exact dv_ hK hw (wn rfl) (r_move hf rfl) rfl
        · intro ρ w a hw hG hf hd K hK
          obtain ⟨o1, o2, o3, o6, o7, o8, o9, o13, o14⟩ := hG
          obtain ⟨_, hf, rfl⟩ := got (hd 2 (by kernel_rfl)) hf
          exact dv_ hK hw (wn rfl) (r_indexAddr_arr Try.underlying97 sz24 hf rfl rfl (by decide) (by decide)) rfl
        · intro ρ w a hw hG hf hd K hK
          obtain ⟨o1, o2, o3, o6, o7, o8, o9, o13, o14⟩ := hG
          obtain ⟨_, hf, rfl⟩ := got (hd 3 (by kernel_rfl)) hf
          exact dv_ hK hw (wn rfl) (r_load_cell ty24 hf rfl (o9.cl.at_ 1 _ rfl)) rfl
        · intro ρ w a hw hG hf hd K hK
          obtain ⟨o1, o2, o3, o6, o7, o8, o9, o13, o14⟩ := hG
          obtain ⟨_, hf, rfl⟩ := got (hd 1 (by kernel_rfl)) hf
          obtain ⟨_, hf, rfl⟩ := got (hd 4 (by kernel_rfl)) hf
          refine dc_ hK hw (wn rfl) (r_fn en56 hf rfl) (spec_l04Square_ok (h2.now hw) hx13) fun v w' hΦ => ?_
          obtain ⟨hb, hΦ⟩ := hΦ
          obtain rfl := hΦ
          have hE := Ext.new (ρ := ρ) 20 hb
          exact ⟨_, hw.new 20 hb, hE, rfl⟩
        · intro ρ w a hw hG hf hd K hK
          obtain ⟨o1, o2, o3, o6, o7, o8, o9, o13, o14⟩ := hG
          obtain ⟨_, hf, rfl⟩ := got (hd 5 (by kernel_rfl)) hf
          exact dv_ hK hw (wn rfl) (r_not hf rfl) rfl
        · intro ρ w a hw hG hf hd K hK
          obtain ⟨o1, o2, o3, o6, o7, o8, o9, o13, o14⟩ := hG
          obtain ⟨_, hf, rfl⟩ := got (hd 6 (by kernel_rfl)) hf
          exact dv_ hK hw (wn rfl) (r_move hf rfl) rfl
        · intro ρ w a hw hG hf hd K hK
          obtain ⟨o1, o2, o3, o6, o7, o8, o9, o13, o14⟩ := hG
          obtain ⟨_, hf, rfl⟩ := got (hd 7 (by kernel_rfl)) hf
          exact do_ hK (b := true) hw hf rfl rfl rfl hb14 rfl rfl
        · intro ρ w a hw hG hf hd K hK
          obtain ⟨o1, o2, o3, o6, o7, o8, o9, o13, o14⟩ := hG
          obtain ⟨_, hf, rfl⟩ := got (hd 7 (by kernel_rfl)) hf
          obtain ⟨_, hf, rfl⟩ := got (hd 8 (by kernel_rfl)) hf
          exact do_ hK (b := true) hw hf rfl rfl rfl hb14 rfl rfl
        · intro ρ w a hw hG hf hd K hK
          obtain ⟨o1, o2, o3, o6, o7, o8, o9, o13, o14⟩ := hG
          obtain ⟨_, hf, rfl⟩ := got (hd 7 (by kernel_rfl)) hf
          obtain ⟨_, hf, rfl⟩ := got (hd 9 (by kernel_rfl)) hf
          exact do_ hK (b := true) hw hf rfl rfl rfl hb14 rfl rfl
        · intro ρ w a hw hG hf hd K hK
          obtain ⟨o1, o2, o3, o6, o7, o8, o9, o13, o14⟩ := hG
          obtain ⟨_, hf, rfl⟩ := got (hd 7 (by kernel_rfl)) hf
          obtain ⟨_, hf, rfl⟩ := got (hd 10 (by kernel_rfl)) hf
          exact do_ hK (b := true) hw hf rfl rfl rfl hb14 rfl rfl
        · intro ρ w a hw hG hf hd K hK
          obtain ⟨o1, o2, o3, o6, o7, o8, o9, o13, o14⟩ := hG
          obtain ⟨_, hf, rfl⟩ := got (hd 7 (by kernel_rfl)) hf
          exact do_ hK (b := true) hw hf rfl rfl rfl hb14 rfl rfl
        · intro ρ w a hw hG hf hd K hK
          obtain ⟨o1, o2, o3, o6, o7, o8, o9, o13, o14⟩ := hG
          obtain ⟨_, hf, rfl⟩ := got (hd 7 (by kernel_rfl)) hf
          obtain ⟨_, hf, rfl⟩ := got (hd 12 (by kernel_rfl)) hf
          exact do_ hK (b := true) hw hf rfl rfl rfl hb14 rfl rfl
        · intro ρ w a hw hG hf hd K hK
          obtain ⟨o1, o2, o3, o6, o7, o8, o9, o13, o14⟩ := hG
          obtain ⟨_, hf, rfl⟩ := got (hd 7 (by kernel_rfl)) hf
          obtain ⟨_, hf, rfl⟩ := got (hd 13 (by kernel_rfl)) hf
          exact do_ hK (b := true) hw hf rfl rfl rfl hb14 rfl rfl
      intro ρ w a hw hG hf hd
      obtain ⟨o1, o2, o3, o6, o7, o8, o9, o13, o14⟩ := hG
      obtain ⟨_, hf, rfl⟩ := got (hd 7 (by decide)) hf
      obtain ⟨_, hf, rfl⟩ := got (hd 11 (by decide)) hf
      obtain ⟨_, hf, rfl⟩ := got (hd 14 (by decide)) hf
      refine st_no (b := true) hf rfl rfl rfl hb14 rfl (by decide) fun a hf => ?_
      refine s_ hf (r_pick (b := true) hf rfl hb14 rfl) fun a hf => ?_
      refine c_nil ⟨rfl, ?_⟩
      obtain rfl := Option.some.inj hF
      exact ⟨_, hw, hf.sub ⟨rfl, rfl, rfl, rfl, rfl, rfl, rfl, trivial⟩, o1, o2, o3, o6, o7, o8, o9, o13, o14⟩
    replace hf : Fr 78 a [(4, .pointer (some ((⟨g1, 0, none⟩ : Addr).add 0))), (8, .pointer (some ((⟨g2, 0, none⟩ : Addr).add 0))), (10, .pointer (some ((⟨g9, 0, none⟩ : Addr).add 0))), (11, .pointer (some ((⟨g13, 0, none⟩ : Addr).add 0))), (12, .pointer (some ((⟨g14, 0, none⟩ : Addr).add 0))), (13, vI 1)] := hf.sub ⟨rfl, rfl, rfl, rfl, rfl, rfl, trivial⟩
    refine c_drawL (h := 15) mixed (by kernel_rfl) (by kernel_rfl) (fun ρ w => Va ρ w 1 g1 39 ([vI a0.p, vI a0.n, vI a0.m, vI a0.k, va0]) ∧ Va ρ w 2 g2 39 ([vI 0, vI 0, vI 0, vI 0, (.slice none 0 0)]) ∧ O82 ρ w w0 3 (.slice none 0 0) ([] : List Prod) ∧ O36 ρ w w0 6 (.slice none 0 0) ([] : List (List Int)) ∧ O36 ρ w w0 7 (.slice none 0 0) ([] : List (List Int)) ∧ O36 ρ w w0 8 (.slice none 0 0) ([] : List (List Int)) ∧ Va ρ w 9 g9 97 ([va1, va2, va3]) ∧ Va ρ w 13 g13 84 (cVec3.enc (#v[a0.n, a0.m, a0.k] : Vec3)) ∧ Va ρ w 14 g14 97 ([(.slice none 0 0), (.slice none 0 0), (.slice none 0 0)])) ?_ [fun ρ w v => .pointer (some ((⟨g1, 0, none⟩ : Addr).add (0 + 0))) = v, fun ρ w v => vI a0.p = v, fun ρ w v => vI 1 = v, fun ρ w v => .pointer (some ((⟨g9, 0, none⟩ : Addr).add (0 + (1 : Int).toNat * 1))) = v, fun ρ w v => va2 = v, fun ρ w v => .bool x12 = v, fun ρ w v => .bool (!x12) = v, fun ρ w v => .bool (!x12) = v, fun ρ w v => vI 1 = v, fun ρ w v => .pointer (some ((⟨g9, 0, none⟩ : Addr).add (0 + (1 : Int).toNat * 1))) = v, fun ρ w v => va2 = v, fun ρ w v => vI (a2.length : Int) = v, fun ρ w v => vI 1 = v, fun ρ w v => .pointer (some ((⟨g13, 0, none⟩ : Addr).add (0 + (1 : Int).toNat * 1))) = v, fun ρ w v => vI (vg 0 (#v[a0.n, a0.m, a0.k] : Vec3) 1) = v] ?_ hw ⟨o1, o2, o3, o6, o7, o8, o9, o13, o14⟩ hf ?_ ?_
    · intro ρ w ρ' w' hE hG
      obtain ⟨o1, o2, o3, o6, o7, o8, o9, o13, o14⟩ := hG
      exact ⟨o1.ext hE, o2.ext hE, o3.ext hE, o6.ext hE, o7.ext hE, o8.ext hE, o9.ext hE, o13.ext hE, o14.ext hE⟩
    · exact LastsL.cons (fun _ _ _ _ _ _ h => h) <| LastsL.cons (fun _ _ _ _ _ _ h => h) <| LastsL.cons (fun _ _ _ _ _ _ h => h) <| LastsL.cons (fun _ _ _ _ _ _ h => h) <| LastsL.cons (fun _ _ _ _ _ _ h => h) <| LastsL.cons (fun _ _ _ _ _ _ h => h) <| LastsL.cons (fun _ _ _ _ _ _ h => h) <| LastsL.cons (fun _ _ _ _ _ _ h => h) <| LastsL.cons (fun _ _ _ _ _ _ h => h) <| LastsL.cons (fun _ _ _ _ _ _ h => h) <| LastsL.cons (fun _ _ _ _ _ _ h => h) <| LastsL.cons (fun _ _ _ _ _ _ h => h) <| LastsL.cons (fun _ _ _ _ _ _ h => h) <| LastsL.cons (fun _ _ _ _ _ _ h => h) <| LastsL.cons (fun _ _ _ _ _ _ h => h) <| LastsL.nil
    · refine StepsB.cons ?_ <| StepsB.cons ?_ <| StepsB.cons ?_ <| StepsB.cons ?_ <| StepsB.cons ?_ <| StepsB.cons ?_ <| StepsB.cons ?_ <| StepsB.cons ?_ <| StepsB.cons ?_ <| StepsB.cons ?_ <| StepsB.cons ?_ <| StepsB.cons ?_ <| StepsB.cons ?_ <| StepsB.cons ?_ <| StepsB.cons ?_ <| StepsB.nil
      · intro ρ w a hw hG hf hd K hK
        obtain ⟨o1, o2, o3, o6, o7, o8, o9, o13, o14⟩ := hG
        exact dv_ hK hw (wn rfl) (r_fa fa39_0 hf rfl) rfl
      · intro ρ w a hw hG hf hd K hK
        obtain ⟨o1, o2, o3, o6, o7, o8, o9, o13, o14⟩ := hG
        obtain ⟨_, hf, rfl⟩ := got (hd 0 (by kernel_rfl)) hf
        exact dv_ hK hw (wn rfl) (r_load_cell ty2 hf rfl (o1.cl.at_ 0 _ rfl)) rfl
      · intro ρ w a hw hG hf hd K hK
        obtain ⟨o1, o2, o3, o6, o7, o8, o9, o13, o14⟩ := hG
        exact dv_ hK hw (wn rfl) (r_move hf rfl) rfl
      · intro ρ w a hw hG hf hd K hK
        obtain ⟨o1, o2, o3, o6, o7, o8, o9, o13, o14⟩ := hG
        obtain ⟨_, hf, rfl⟩ := got (hd 2 (by kernel_rfl)) hf
        exact dv_ hK hw (wn rfl) (r_indexAddr_arr Try.underlying97 sz24 hf rfl rfl (by decide) (by decide)) rfl
      · intro ρ w a hw hG hf hd K hK
        obtain ⟨o1, o2, o3, o6, o7, o8, o9, o13, o14⟩ := hG
        obtain ⟨_, hf, rfl⟩ := got (hd 3 (by kernel_rfl)) hf
        exact dv_ hK hw (wn rfl) (r_load_cell ty24 hf rfl (o9.cl.at_ 1 _ rfl)) rfl
      · intro ρ w a hw hG hf hd K hK
        obtain ⟨o1, o2, o3, o6, o7, o8, o9, o13, o14⟩ := hG
        obtain ⟨_, hf, rfl⟩ := got (hd 1 (by kernel_rfl)) hf
        obtain ⟨_, hf, rfl⟩ := got (hd 4 (by kernel_rfl)) hf
        refine dc_ hK hw (wn rfl) (r_fn en56 hf rfl) (spec_l04Square_ok (h2.now hw) hx13) fun v w' hΦ => ?_
        obtain ⟨hb, hΦ⟩ := hΦ
        obtain rfl := hΦ
        have hE := Ext.new (ρ := ρ) 20 hb
        exact ⟨_, hw.new 20 hb, hE, rfl⟩
      · intro ρ w a hw hG hf hd K hK
        obtain ⟨o1, o2, o3, o6, o7, o8, o9, o13, o14⟩ := hG
        obtain ⟨_, hf, rfl⟩ := got (hd 5 (by kernel_rfl)) hf
        exact dv_ hK hw (wn rfl) (r_not hf rfl) rfl
      · intro ρ w a hw hG hf hd K hK
        obtain ⟨o1, o2, o3, o6, o7, o8, o9, o13, o14⟩ := hG
        obtain ⟨_, hf, rfl⟩ := got (hd 6 (by kernel_rfl)) hf
        exact dv_ hK hw (wn rfl) (r_move hf rfl) rfl
      · intro ρ w a hw hG hf hd K hK
        obtain ⟨o1, o2, o3, o6, o7, o8, o9, o13, o14⟩ := hG
        obtain ⟨_, hf, rfl⟩ := got (hd 7 (by kernel_rfl)) hf
        exact dv_ hK hw (wg (b := false) hf rfl rfl rfl hb14) (r_move hf rfl) rfl
      · intro ρ w a hw hG hf hd K hK
        obtain ⟨o1, o2, o3, o6, o7, o8, o9, o13, o14⟩ := hG
        obtain ⟨_, hf, rfl⟩ := got (hd 7 (by kernel_rfl)) hf
        obtain ⟨_, hf, rfl⟩ := got (hd 8 (by kernel_rfl)) hf
        exact dv_ hK hw (wg (b := false) hf rfl rfl rfl hb14) (r_indexAddr_arr Try.underlying97 sz24 hf rfl rfl (by decide) (by decide)) rfl
      · intro ρ w a hw hG hf hd K hK
        obtain ⟨o1, o2, o3, o6, o7, o8, o9, o13, o14⟩ := hG
        obtain ⟨_, hf, rfl⟩ := got (hd 7 (by kernel_rfl)) hf
        obtain ⟨_, hf, rfl⟩ := got (hd 9 (by kernel_rfl)) hf
        exact dv_ hK hw (wg (b := false) hf rfl rfl rfl hb14) (r_load_cell ty24 hf rfl (o9.cl.at_ 1 _ rfl)) rfl
      · intro ρ w a hw hG hf hd K hK
        obtain ⟨o1, o2, o3, o6, o7, o8, o9, o13, o14⟩ := hG
        obtain ⟨_, hf, rfl⟩ := got (hd 7 (by kernel_rfl)) hf
        obtain ⟨_, hf, rfl⟩ := got (hd 10 (by kernel_rfl)) hf
        exact dv_ hK hw (wg (b := false) hf rfl rfl rfl hb14) (r_len Try.underlying24 (h2.now hw) hf rfl) rfl
      · intro ρ w a hw hG hf hd K hK
        obtain ⟨o1, o2, o3, o6, o7, o8, o9, o13, o14⟩ := hG
        obtain ⟨_, hf, rfl⟩ := got (hd 7 (by kernel_rfl)) hf
        exact dv_ hK hw (wg (b := false) hf rfl rfl rfl hb14) (r_move hf rfl) rfl
      · intro ρ w a hw hG hf hd K hK
        obtain ⟨o1, o2, o3, o6, o7, o8, o9, o13, o14⟩ := hG
        obtain ⟨_, hf, rfl⟩ := got (hd 7 (by kernel_rfl)) hf
        obtain ⟨_, hf, rfl⟩ := got (hd 12 (by kernel_rfl)) hf
        exact dv_ hK hw (wg (b := false) hf rfl rfl rfl hb14) (r_indexAddr_arr Try.underlying84 sz2 hf rfl rfl (by decide) (by decide)) rfl
      · intro ρ w a hw hG hf hd K hK
        obtain ⟨o1, o2, o3, o6, o7, o8, o9, o13, o14⟩ := hG
        obtain ⟨_, hf, rfl⟩ := got (hd 7 (by kernel_rfl)) hf
        obtain ⟨_, hf, rfl⟩ := got (hd 13 (by kernel_rfl)) hf
        exact dv_ hK hw (wg (b := false) hf rfl rfl rfl hb14) (r_load_cell ty2 hf rfl (o13.cl.lens (Lens.vec 0 fI64 1 (by decide) (by decide)))) rfl
    intro ρ w a hw hG hf hd
    obtain ⟨o1, o2, o3, o6, o7, o8, o9, o13, o14⟩ := hG
    obtain ⟨_, hf, rfl⟩ := got (hd 7 (by decide)) hf
    obtain ⟨_, hf, rfl⟩ := got (hd 11 (by decide)) hf
    obtain ⟨_, hf, rfl⟩ := got (hd 14 (by decide)) hf
    refine st_g (b := false) hf rfl rfl rfl hb14 rfl (by decide) (r_neq hf rfl rfl) fun a hf => ?_
    refine s_ hf (r_pick (b := false) hf rfl hb14 rfl) fun a hf => ?_
    refine c_nil ⟨rfl, ?_⟩
    obtain rfl := Option.some.inj hF
    exact ⟨_, hw, hf.sub ⟨rfl, rfl, rfl, rfl, rfl, rfl, rfl, trivial⟩, o1, o2, o3, o6, o7, o8, o9, o13, o14⟩
  rintro a w ⟨ρ, hw, hf, o1, o2, o3, o6, o7, o8, o9, o13, o14⟩
  have hF := hG10
  refine n_then ?_
  rcases of_ite hF with ⟨hb15, hF⟩ | ⟨hb15, hF⟩
  · refine c_ift hf rfl hb15 <| c_seq <| c_region ?_
    have o21 : Ow (kf cProd) 82 ρ w w0.heap.size 21 (.slice none 0 0) [] := Ow.nil _ _ _ _ _ _
    refine s_ hf (r_build_struct (pl := [(0, 1), (1, 1), (2, 1), (3, 1), (4, 1)]) (vs := []) (res := ([vI 0, vI 0, vI 0, vI 0, (.slice none 0 0)]).toArray) Try.underlying39 (by kernel_rfl) ze39 hf rfl rfl rfl) fun a hf => ?_
    refine sk_ hf (r_store_w (cs' := [vI 0, vI 0, vI 0, vI 0, (.slice none 0 0)]) hw o2 (by decide) ty39 rfl rfl (one_sch o21.ro.one) hf rfl rfl rfl) fun a w hf hΦ => ?_
    obtain ⟨hw, hA, o2⟩ := hΦ
    replace o1 := o1.adv hA (by decide)
    replace o3 := o3.adv hA (by decide)
    replace o6 := o6.adv hA (by decide)
    replace o7 := o7.adv hA (by decide)
    replace o8 := o8.adv hA (by decide)
    replace o9 := o9.adv hA (by decide)
    replace o13 := o13.adv hA (by decide)
    replace o14 := o14.adv hA (by decide)
    replace o21 := o21.adv hA (by decide)
    refine s_ hf (r_assign hf rfl) fun a hf => ?_
    refine c_nt <| c_retc ?_
    obtain rfl := Option.some.inj hF
    refine r_block <| r_then ?_
    refine u_r ?_
    refine r_block <| r_then <| c_ret hf (res_ct Try.results44 ty39 hf rfl o2.cl rfl rfl) ?_
    exact ⟨_, rfl, hw.below, ⟨_, rfl, o21.out⟩⟩
  refine c_iff hf rfl hb15 <| c_skip <| n_block <| n_then <| c_region ?_
  refine s_ hf (r_move hf rfl) fun a hf => ?_
  refine s_ hf (r_fold (r_add hf rfl rfl) (congrArg (Value.int .i64) (show w64 ((1 : Int) + 1) = 2 from (w64_id (by decide) (by decide)).trans (by decide)))) fun a hf => ?_
  refine s_ hf (r_assign hf rfl) fun a hf => ?_
  refine c_nil ?_
  replace hf : Fr 78 a [(4, .pointer (some ((⟨g1, 0, none⟩ : Addr).add 0))), (8, .pointer (some ((⟨g2, 0, none⟩ : Addr).add 0))), (10, .pointer (some ((⟨g9, 0, none⟩ : Addr).add 0))), (11, .pointer (some ((⟨g13, 0, none⟩ : Addr).add 0))), (12, .pointer (some ((⟨g14, 0, none⟩ : Addr).add 0))), (13, vI 2)] := hf.sub ⟨rfl, rfl, rfl, rfl, rfl, rfl, trivial⟩
  refine u_n ?_
  refine c_seq <| c_seq <| c_region ?_
  refine s_ hf (r_move hf rfl) fun a hf => ?_
  refine s_ hf (r_fold (r_lss hf rfl rfl) (congrArg Value.bool (show decide ((2 : Int) < 3) = true by decide))) fun a hf => ?_
  refine c_nt <| c_true hf rfl <| c_skip <| n_then <| c_seq <| c_block <| c_seq ?_
  obtain ⟨s17, hT16, hG16⟩ := of_bind hF
  clear hF
  refine c_meet (fun (s17 : Bool) a w => ∃ ρ, Wd w0 ρ w ∧ Fr 78 a [(4, .pointer (some ((⟨g1, 0, none⟩ : Addr).add 0))), (8, .pointer (some ((⟨g2, 0, none⟩ : Addr).add 0))), (10, .pointer (some ((⟨g9, 0, none⟩ : Addr).add 0))), (11, .pointer (some ((⟨g13, 0, none⟩ : Addr).add 0))), (12, .pointer (some ((⟨g14, 0, none⟩ : Addr).add 0))), (13, vI 2), (53, .bool s17)] ∧ Va ρ w 1 g1 39 ([vI a0.p, vI a0.n, vI a0.m, vI a0.k, va0]) ∧ Va ρ w 2 g2 39 ([vI 0, vI 0, vI 0, vI 0, (.slice none 0 0)]) ∧ O82 ρ w w0 3 (.slice none 0 0) ([] : List Prod) ∧ O36 ρ w w0 6 (.slice none 0 0) ([] : List (List Int)) ∧ O36 ρ w w0 7 (.slice none 0 0) ([] : List (List Int)) ∧ O36 ρ w w0 8 (.slice none 0 0) ([] : List (List Int)) ∧ Va ρ w 9 g9 97 ([va1, va2, va3]) ∧ Va ρ w 13 g13 84 (cVec3.enc (#v[a0.n, a0.m, a0.k] : Vec3)) ∧ Va ρ w 14 g14 97 ([(.slice none 0 0), (.slice none 0 0), (.slice none 0 0)])) s17 ?_ ?_
  · have hF := hT16
    obtain ⟨x18, hx19, hF⟩ := of_bind hF
    rcases of_ite hF with ⟨hb20, hF⟩ | ⟨hb20, hF⟩
    · replace hf : Fr 78 a [(4, .pointer (some ((⟨g1, 0, none⟩ : Addr).add 0))), (8, .pointer (some ((⟨g2, 0, none⟩ : Addr).add 0))), (10, .pointer (some ((⟨g9, 0, none⟩ : Addr).add 0))), (11, .pointer (some ((⟨g13, 0, none⟩ : Addr).add 0))), (12, .pointer (some ((⟨g14, 0, none⟩ : Addr).add 0))), (13, vI 2)] := hf.sub ⟨rfl, rfl, rfl, rfl, rfl, rfl, trivial⟩
      refine c_drawL (h := 15) mixed (by kernel_rfl) (by kernel_rfl) (fun ρ w => Va ρ w 1 g1 39 ([vI a0.p, vI a0.n, vI a0.m, vI a0.k, va0]) ∧ Va ρ w 2 g2 39 ([vI 0, vI 0, vI 0, vI 0, (.slice none 0 0)]) ∧ O82 ρ w w0 3 (.slice none 0 0) ([] : List Prod) ∧ O36 ρ w w0 6 (.slice none 0 0) ([] : List (List Int)) ∧ O36 ρ w w0 7 (.slice none 0 0) ([] : List (List Int)) ∧ O36 ρ w w0 8 (.slice none 0 0) ([] : List (List Int)) ∧ Va ρ w 9 g9 97 ([va1, va2, va3]) ∧ Va ρ w 13 g13 84 (cVec3.enc (#v[a0.n, a0.m, a0.k] : Vec3)) ∧ Va ρ w 14 g14 97 ([(.slice none 0 0), (.slice none 0 0), (.slice none 0 0)])) ?_ [fun ρ w v => .pointer (some ((⟨g1, 0, none⟩ : Addr).add (0 + 0))) = v, fun ρ w v => vI a0.p = v, fun ρ w v => vI 2 = v, fun ρ w v => .pointer (some ((⟨g9, 0, none⟩ : Addr).add (0 + (2 : Int).toNat * 1))) = v, fun ρ w v => va3 = v, fun ρ w v => .bool x18 = v, fun ρ w v => .bool (!x18) = v, fun ρ w v => .bool (!x18) = v, fun ρ w v => undef = v, fun ρ w v => undef = v, fun ρ w v => undef = v, fun ρ w v => undef = v, fun ρ w v => undef = v, fun ρ w v => undef = v, fun ρ w v => undef = v] ?_ hw ⟨o1, o2, o3, o6, o7, o8, o9, o13, o14⟩ hf ?_ ?_
      · intro ρ w ρ' w' hE hG
        obtain ⟨o1, o2, o3, o6, o7, o8, o9, o13, o14⟩ := hG
        exact ⟨o1.ext hE, o2.ext hE, o3.ext hE, o6.ext hE, o7.ext hE, o8.ext hE, o9.ext hE, o13.ext hE, o14.ext hE⟩
      · exact LastsL.cons (fun _ _ _ _ _ _ h => h) <| LastsL.cons (fun _ _ _ _ _ _ h => h) <| LastsL.cons (fun _ _ _ _ _ _ h => h) <| LastsL.cons (fun _ _ _ _ _ _ h => h) <| LastsL.cons (fun _ _ _ _ _ _ h => h) <| LastsL.cons (fun _ _ _ _ _ _ h => h) <| LastsL.cons (fun _ _ _ _ _ _ h => h) <| LastsL.cons (fun _ _ _ _ _ _ h => h) <| LastsL.cons (fun _ _ _ _ _ _ h => h) <| LastsL.cons (fun _ _ _ _ _ _ h => h) <| LastsL.cons (fun _ _ _ _ _ _ h => h) <| LastsL.cons (fun _ _ _ _ _ _ h => h) <| LastsL.cons (fun _ _ _ _ _ _ h => h) <| LastsL.cons (fun _ _ _ _ _ _ h => h) <| LastsL.cons (fun _ _ _ _ _ _ h => h) <| LastsL.nil
      · refine StepsB.cons ?_ <| StepsB.cons ?_ <| StepsB.cons ?_ <| StepsB.cons ?_ <| StepsB.cons ?_ <| StepsB.cons ?_ <| StepsB.cons ?_ <| StepsB.cons ?_ <| StepsB.cons ?_ <| StepsB.cons ?_ <| StepsB.cons ?_ <| StepsB.cons ?_ <| StepsB.cons ?_ <| StepsB.cons ?_ <| StepsB.cons ?_ <| StepsB.nil
        · intro ρ w a hw hG hf hd K hK
          obtain ⟨o1, o2, o3, o6, o7, o8, o9, o13, o14⟩ := hG
          exact dv_ hK hw (wn rfl) (r_fa fa39_0 hf rfl) rfl
        · intro ρ w a hw hG hf hd K hK
          obtain ⟨o1, o2, o3, o6, o7, o8, o9, o13, o14⟩ := hG
          obtain ⟨_, hf, rfl⟩ := got (hd 0 (by kernel_rfl)) hf
          exact dv_ hK hw (wn rfl) (r_load_cell ty2 hf rfl (o1.cl.at_ 0 _ rfl)) rfl
        · intro ρ w a hw hG hf hd K hK
          obtain ⟨o1, o2, o3, o6, o7, o8, o9, o13, o14⟩ := hG
          exact dv_ hK hw (wn rfl) (r_move hf rfl) rfl
        · intro ρ w a hw hG hf hd K hK
          obtain ⟨o1, o2, o3, o6, o7, o8, o9, o13, o14⟩ := hG
          obtain ⟨_, hf, rfl⟩ := got (hd 2 (by kernel_rfl)) hf
          exact dv_ hK hw (wn rfl) (r_indexAddr_arr Try.underlying97 sz24 hf rfl rfl (by decide) (by decide)) rfl
        · intro ρ w a hw hG hf hd K hK
          obtain ⟨o1, o2, o3, o6, o7, o8, o9, o13, o14⟩ := hG
          obtain ⟨_, hf, rfl⟩ := got (hd 3 (by kernel_rfl)) hf
          exact dv_ hK hw (wn rfl) (r_load_cell ty24 hf rfl (o9.cl.at_ 2 _ rfl)) rfl
        · intro ρ w a hw hG hf hd K hK
          obtain ⟨o1, o2, o3, o6, o7, o8, o9, o13, o14⟩ := hG
          obtain ⟨_, hf, rfl⟩ := got (hd 1 (by kernel_rfl)) hf
          obtain ⟨_, hf, rfl⟩ := got (hd 4 (by kernel_rfl)) hf
          refine dc_ hK hw (wn rfl) (r_fn en56 hf rfl) (spec_l04Square_ok (h3.now hw) hx19) fun v w' hΦ => ?_
          obtain ⟨hb, hΦ⟩ := hΦ
          obtain rfl := hΦ
          have hE := Ext.new (ρ := ρ) 22 hb
          exact ⟨_, hw.new 22 hb, hE, rfl⟩
        · intro ρ w a hw hG hf hd K hK
          obtain ⟨o1, o2, o3, o6, o7, o8, o9, o13, o14⟩ := hG
          obtain ⟨_, hf, rfl⟩ := got (hd 5 (by kernel_rfl)) hf
          exact dv_ hK hw (wn rfl) (r_not hf rfl) rfl
        · intro ρ w a hw hG hf hd K hK
          obtain ⟨o1, o2, o3, o6, o7, o8, o9, o13, o14⟩ := hG
          obtain ⟨_, hf, rfl⟩ := got (hd 6 (by kernel_rfl)) hf
          exact dv_ hK hw (wn rfl) (r_move hf rfl) rfl
        · intro ρ w a hw hG hf hd K hK
          obtain ⟨o1, o2, o3, o6, o7, o8, o9, o13, o14⟩ := hG
          obtain ⟨_, hf, rfl⟩ := got (hd 7 (by kernel_rfl)) hf
          exact do_ hK (b := true) hw hf rfl rfl rfl hb20 rfl rfl
        · intro ρ w a hw hG hf hd K hK
          obtain ⟨o1, o2, o3, o6, o7, o8, o9, o13, o14⟩ := hG
          obtain ⟨_, hf, rfl⟩ := got (hd 7 (by kernel_rfl)) hf
          obtain ⟨_, hf, rfl⟩ := got (hd 8 (by kernel_rfl)) hf
          exact do_ hK (b := true) hw hf rfl rfl rfl hb20 rfl rfl
        · intro ρ w a hw hG hf hd K hK
          obtain ⟨o1, o2, o3, o6, o7, o8, o9, o13, o14⟩ := hG
          obtain ⟨_, hf, rfl⟩ := got (hd 7 (by kernel_rfl)) hf
          obtain ⟨_, hf, rfl⟩ := got (hd 9 (by kernel_rfl)) hf
          exact do_ hK (b := true) hw hf rfl rfl rfl hb20 rfl rfl
        · intro ρ w a hw hG hf hd K hK
          obtain ⟨o1, o2, o3, o6, o7, o8, o9, o13, o14⟩ := hG
          obtain ⟨_, hf, rfl⟩ := got (hd 7 (by kernel_rfl)) hf
          obtain ⟨_, hf, rfl⟩ := got (hd 10 (by kernel_rfl)) hf
          exact do_ hK (b := true) hw hf rfl rfl rfl hb20 rfl rfl
        · intro ρ w a hw hG hf hd K hK
          obtain ⟨o1, o2, o3, o6, o7, o8, o9, o13, o14⟩ := hG
          obtain ⟨_, hf, rfl⟩ := got (hd 7 (by kernel_rfl)) hf
          exact do_ hK (b := true) hw hf rfl rfl rfl hb20 rfl rfl
        · intro ρ w a hw hG hf hd K hK
          obtain ⟨o1, o2, o3, o6, o7, o8, o9, o13, o14⟩ := hG
          obtain ⟨_, hf, rfl⟩ := got (hd 7 (by kernel_rfl)) hf
          obtain ⟨_, hf, rfl⟩ := got (hd 12 (by kernel_rfl)) hf
          exact do_ hK (b := true) hw hf rfl rfl rfl hb20 rfl rfl
        · intro ρ w a hw hG hf hd K hK
          obtain ⟨o1, o2, o3, o6, o7, o8, o9, o13, o14⟩ := hG
          obtain ⟨_, hf, rfl⟩ := got (hd 7 (by kernel_rfl)) hf
          obtain ⟨_, hf, rfl⟩ := got (hd 13 (by kernel_rfl)) hf
          exact do_ hK (b := true) hw hf rfl rfl rfl hb20 rfl rfl
      intro ρ w a hw hG hf hd
      obtain ⟨o1, o2, o3, o6, o7, o8, o9, o13, o14⟩ := hG
      obtain ⟨_, hf, rfl⟩ := got (hd 7 (by decide)) hf
      obtain ⟨_, hf, rfl⟩ := got (hd 11 (by decide)) hf
      obtain ⟨_, hf, rfl⟩ := got (hd 14 (by decide)) hf
      refine st_no (b := true) hf rfl rfl rfl hb20 rfl (by decide) fun a hf => ?_
      refine s_ hf (r_pick (b := true) hf rfl hb20 rfl) fun a hf => ?_
      refine c_nil ⟨rfl, ?_⟩
      obtain rfl := Option.some.inj hF
      exact ⟨_, hw, hf.sub ⟨rfl, rfl, rfl, rfl, rfl, rfl, rfl, trivial⟩, o1, o2, o3, o6, o7, o8, o9, o13, o14⟩
    replace hf : Fr 78 a [(4, .pointer (some ((⟨g1, 0, none⟩ : Addr).add 0))), (8, .pointer (some ((⟨g2, 0, none⟩ : Addr).add 0))), (10, .pointer (some ((⟨g9, 0, none⟩ : Addr).add 0))), (11, .pointer (some ((⟨g13, 0, none⟩ : Addr).add 0))), (12, .pointer (some ((⟨g14, 0, none⟩ : Addr).add 0))), (13, vI 2)] := hf.sub ⟨rfl, rfl, rfl, rfl, rfl, rfl, trivial⟩
    refine c_drawL (h := 15) mixed (by kernel_rfl) (by kernel_rfl) (fun ρ w => Va ρ w 1 g1 39 ([vI a0.p, vI a0.n, vI a0.m, vI a0.k, va0]) ∧ Va ρ w 2 g2 39 ([vI 0, vI 0, vI 0, vI 0, (.slice none 0 0)]) ∧ O82 ρ w w0 3 (.slice none 0 0) ([] : List Prod) ∧ O36 ρ w w0 6 (.slice none 0 0) ([] : List (List Int)) ∧ O36 ρ w w0 7 (.slice none 0 0) ([] : List (List Int)) ∧ O36 ρ w w0 8 (.slice none 0 0) ([] : List (List Int)) ∧ Va ρ w 9 g9 97 ([va1, va2, va3]) ∧ Va ρ w 13 g13 84 (cVec3.enc (#v[a0.n, a0.m, a0.k] : Vec3)) ∧ Va ρ w 14 g14 97 ([(.slice none 0 0), (.slice none 0 0), (.slice none 0 0)])) ?_ [fun ρ w v => .pointer (some ((⟨g1, 0, none⟩ : Addr).add (0 + 0))) = v, fun ρ w v => vI a0.p = v, fun ρ w v => vI 2 = v, fun ρ w v => .pointer (some ((⟨g9, 0, none⟩ : Addr).add (0 + (2 : Int).toNat * 1))) = v, fun ρ w v => va3 = v, fun ρ w v => .bool x18 = v, fun ρ w v => .bool (!x18) = v, fun ρ w v => .bool (!x18) = v, fun ρ w v => vI 2 = v, fun ρ w v => .pointer (some ((⟨g9, 0, none⟩ : Addr).add (0 + (2 : Int).toNat * 1))) = v, fun ρ w v => va3 = v, fun ρ w v => vI (a3.length : Int) = v, fun ρ w v => vI 2 = v, fun ρ w v => .pointer (some ((⟨g13, 0, none⟩ : Addr).add (0 + (2 : Int).toNat * 1))) = v, fun ρ w v => vI (vg 0 (#v[a0.n, a0.m, a0.k] : Vec3) 2) = v] ?_ hw ⟨o1, o2, o3, o6, o7, o8, o9, o13, o14⟩ hf ?_ ?_
    · intro ρ w ρ' w' hE hG
      obtain ⟨o1, o2, o3, o6, o7, o8, o9, o13, o14⟩ := hG
      exact ⟨o1.ext hE, o2.ext hE, o3.ext hE, o6.ext hE, o7.ext hE, o8.ext hE, o9.ext hE, o13.ext hE, o14.ext hE⟩
    · exact LastsL.cons (fun _ _ _ _ _ _ h => h) <| LastsL.cons (fun _ _ _ _ _ _ h => h) <| LastsL.cons (fun _ _ _ _ _ _ h => h) <| LastsL.cons (fun _ _ _ _ _ _ h => h) <| LastsL.cons (fun _ _ _ _ _ _ h => h) <| LastsL.cons (fun _ _ _ _ _ _ h => h) <| LastsL.cons (fun _ _ _ _ _ _ h => h) <| LastsL.cons (fun _ _ _ _ _ _ h => h) <| LastsL.cons (fun _ _ _ _ _ _ h => h) <| LastsL.cons (fun _ _ _ _ _ _ h => h) <| LastsL.cons (fun _ _ _ _ _ _ h => h) <| LastsL.cons (fun _ _ _ _ _ _ h => h) <| LastsL.cons (fun _ _ _ _ _ _ h => h) <| LastsL.cons (fun _ _ _ _ _ _ h => h) <| LastsL.cons (fun _ _ _ _ _ _ h => h) <| LastsL.nil
    · refine StepsB.cons ?_ <| StepsB.cons ?_ <| StepsB.cons ?_ <| StepsB.cons ?_ <| StepsB.cons ?_ <| StepsB.cons ?_ <| StepsB.cons ?_ <| StepsB.cons ?_ <| StepsB.cons ?_ <| StepsB.cons ?_ <| StepsB.cons ?_ <| StepsB.cons ?_ <| StepsB.cons ?_ <| StepsB.cons ?_ <| StepsB.cons ?_ <| StepsB.nil
      · intro ρ w a hw hG hf hd K hK
        obtain ⟨o1, o2, o3, o6, o7, o8, o9, o13, o14⟩ := hG
        exact dv_ hK hw (wn rfl) (r_fa fa39_0 hf rfl) rfl
      · intro ρ w a hw hG hf hd K hK
        obtain ⟨o1, o2, o3, o6, o7, o8, o9, o13, o14⟩ := hG
        obtain ⟨_, hf, rfl⟩ := got (hd 0 (by kernel_rfl)) hf
        exact dv_ hK hw (wn rfl) (r_load_cell ty2 hf rfl (o1.cl.at_ 0 _ rfl)) rfl
      · intro ρ w a hw hG hf hd K hK
        obtain ⟨o1, o2, o3, o6, o7, o8, o9, o13, o14⟩ := hG
        exact dv_ hK hw (wn rfl) (r_move hf rfl) rfl
      · intro ρ w a hw hG hf hd K hK
        obtain ⟨o1, o2, o3, o6, o7, o8, o9, o13, o14⟩ := hG
        obtain ⟨_, hf, rfl⟩ := got (hd 2 (by kernel_rfl)) hf
        exact dv_ hK hw (wn rfl) (r_indexAddr_arr Try.underlying97 sz24 hf rfl rfl (by decide) (by decide)) rfl
      · intro ρ w a hw hG hf hd K hK
        obtain ⟨o1, o2, o3, o6, o7, o8, o9, o13, o14⟩ := hG
        obtain ⟨_, hf, rfl⟩ := got (hd 3 (by kernel_rfl)) hf
        exact dv_ hK hw (wn rfl) (r_load_cell ty24 hf rfl (o9.cl.at_ 2 _ rfl)) rfl
      · intro ρ w a hw hG hf hd K hK
        obtain ⟨o1, o2, o3, o6, o7, o8, o9, o13, o14⟩ := hG
        obtain ⟨_, hf, rfl⟩ := got (hd 1 (by kernel_rfl)) hf
        obtain ⟨_, hf, rfl⟩ := got (hd 4 (by kernel_rfl)) hf
        refine dc_ hK hw (wn rfl) (r_fn en56 hf rfl) (spec_l04Square_ok (h3.now hw) hx19) fun v w' hΦ => ?_
        obtain ⟨hb, hΦ⟩ := hΦ
        obtain rfl := hΦ
        have hE := Ext.new (ρ := ρ) 22 hb
        exact ⟨_, hw.new 22 hb, hE, rfl⟩
      · intro ρ w a hw hG hf hd K hK
        obtain ⟨o1, o2, o3, o6, o7, o8, o9, o13, o14⟩ := hG
        obtain ⟨_, hf, rfl⟩ := got (hd 5 (by kernel_rfl)) hf
        exact dv_ hK hw (wn rfl) (r_not hf rfl) rfl
      · intro ρ w a hw hG hf hd K hK
        obtain ⟨o1, o2, o3, o6, o7, o8, o9, o13, o14⟩ := hG
        obtain ⟨_, hf, rfl⟩ := got (hd 6 (by kernel_rfl)) hf
        exact dv_ hK hw (wn rfl) (r_move hf rfl) rfl
      · intro ρ w a hw hG hf hd K hK
        obtain ⟨o1, o2, o3, o6, o7, o8, o9, o13, o14⟩ := hG
        obtain ⟨_, hf, rfl⟩ := got (hd 7 (by kernel_rfl)) hf
        exact dv_ hK hw (wg (b := false) hf rfl rfl rfl hb20) (r_move hf rfl) rfl
      · intro ρ w a hw hG hf hd K hK
        obtain ⟨o1, o2, o3, o6, o7, o8, o9, o13, o14⟩ := hG
        obtain ⟨_, hf, rfl⟩ := got (hd 7 (by kernel_rfl)) hf
        obtain ⟨_, hf, rfl⟩ := got (hd 8 (by kernel_rfl)) hf
        exact dv_ hK hw (wg (b := false) hf rfl rfl rfl hb20) (r_indexAddr_arr Try.underlying97 sz24 hf rfl rfl (by decide) (by decide)) rfl
      · intro ρ w a hw hG hf hd K hK
        obtain ⟨o1, o2, o3, o6, o7, o8, o9, o13, o14⟩ := hG
        obtain ⟨_, hf, rfl⟩ := got (hd 7 (by kernel_rfl)) hf
        obtain ⟨_, hf, rfl⟩ := got (hd 9 (by kernel_rfl)) hf
        exact dv_ hK hw (wg (b := false) hf rfl rfl rfl hb20) (r_load_cell ty24 hf rfl (o9.cl.at_ 2 _ rfl)) rfl
      · intro ρ w a hw hG hf hd K hK
        obtain ⟨o1, o2, o3, o6, o7, o8, o9, o13, o14⟩ := hG
        obtain ⟨_, hf, rfl⟩ := got (hd 7 (by kernel_rfl)) hf
        obtain ⟨_, hf, rfl⟩ := got (hd 10 (by kernel_rfl)) hf
        exact dv_ hK hw (wg (b := false) hf rfl rfl rfl hb20) (r_len Try.underlying24 (h3.now hw) hf rfl) rfl
      · intro ρ w a hw hG hf hd K hK
        obtain ⟨o1, o2, o3, o6, o7, o8, o9, o13, o14⟩ := hG
        obtain ⟨_, hf, rfl⟩ := got (hd 7 (by kernel_rfl)) hf
        exact dv_ hK hw (wg (b := false) hf rfl rfl rfl hb20) (r_move hf rfl) rfl
      · intro ρ w a hw hG hf hd K hK
        obtain ⟨o1, o2, o3, o6, o7, o8, o9, o13, o14⟩ := hG
        obtain ⟨_, hf, rfl⟩ := got (hd 7 (by kernel_rfl)) hf
        obtain ⟨_, hf, rfl⟩ := got (hd 12 (by kernel_rfl)) hf
        exact dv_ hK hw (wg (b := false) hf rfl rfl rfl hb20) (r_indexAddr_arr Try.underlying84 sz2 hf rfl rfl (by decide) (by decide)) rfl
      · intro ρ w a hw hG hf hd K hK
        obtain ⟨o1, o2, o3, o6, o7, o8, o9, o13, o14⟩ := hG
        obtain ⟨_, hf, rfl⟩ := got (hd 7 (by kernel_rfl)) hf
        obtain ⟨_, hf, rfl⟩ := got (hd 13 (by kernel_rfl)) hf
        exact dv_ hK hw (wg (b := false) hf rfl rfl rfl hb20) (r_load_cell ty2 hf rfl (o13.cl.lens (Lens.vec 0 fI64 2 (by decide) (by decide)))) rfl
    intro ρ w a hw hG hf hd
    obtain ⟨o1, o2, o3, o6, o7, o8, o9, o13, o14⟩ := hG
    obtain ⟨_, hf, rfl⟩ := got (hd 7 (by decide)) hf
    obtain ⟨_, hf, rfl⟩ := got (hd 11 (by decide)) hf
    obtain ⟨_, hf, rfl⟩ := got (hd 14 (by decide)) hf
    refine st_g (b := false) hf rfl rfl rfl hb20 rfl (by decide) (r_neq hf rfl rfl) fun a hf => ?_
    refine s_ hf (r_pick (b := false) hf rfl hb20 rfl) fun a hf => ?_
    refine c_nil ⟨rfl, ?_⟩
    obtain rfl := Option.some.inj hF
    exact ⟨_, hw, hf.sub ⟨rfl, rfl, rfl, rfl, rfl, rfl, rfl, trivial⟩, o1, o2, o3, o6, o7, o8, o9, o13, o14⟩
  rintro a w ⟨ρ, hw, hf, o1, o2, o3, o6, o7, o8, o9, o13, o14⟩
  have hF := hG16
  refine n_then ?_
  rcases of_ite hF with ⟨hb21, hF⟩ | ⟨hb21, hF⟩
  · refine c_ift hf rfl hb21 <| c_seq <| c_region ?_
    have o23 : Ow (kf cProd) 82 ρ w w0.heap.size 23 (.slice none 0 0) [] := Ow.nil _ _ _ _ _ _
    refine s_ hf (r_build_struct (pl := [(0, 1), (1, 1), (2, 1), (3, 1), (4, 1)]) (vs := []) (res := ([vI 0, vI 0, vI 0, vI 0, (.slice none 0 0)]).toArray) Try.underlying39 (by kernel_rfl) ze39 hf rfl rfl rfl) fun a hf => ?_
    refine sk_ hf (r_store_w (cs' := [vI 0, vI 0, vI 0, vI 0, (.slice none 0 0)]) hw o2 (by decide) ty39 rfl rfl (one_sch o23.ro.one) hf rfl rfl rfl) fun a w hf hΦ => ?_
    obtain ⟨hw, hA, o2⟩ := hΦ
    replace o1 := o1.adv hA (by decide)
    replace o3 := o3.adv hA (by decide)
    replace o6 := o6.adv hA (by decide)
    replace o7 := o7.adv hA (by decide)
    replace o8 := o8.adv hA (by decide)
    replace o9 := o9.adv hA (by decide)
    replace o13 := o13.adv hA (by decide)
    replace o14 := o14.adv hA (by decide)
    replace o23 := o23.adv hA (by decide)
    refine s_ hf (r_assign hf rfl) fun a hf => ?_
    refine c_nt <| c_retc ?_
    obtain rfl := Option.some.inj hF
    refine r_block <| r_then ?_
    refine u_r ?_
    refine r_block <| r_then <| c_ret hf (res_ct Try.results44 ty39 hf rfl o2.cl rfl rfl) ?_
    exact ⟨_, rfl, hw.below, ⟨_, rfl, o23.out⟩⟩
  refine c_iff hf rfl hb21 <| c_skip <| n_block <| n_then <| c_region ?_
  refine s_ hf (r_move hf rfl) fun a hf => ?_
  refine s_ hf (r_fold (r_add hf rfl rfl) (congrArg (Value.int .i64) (show w64 ((2 : Int) + 1) = 3 from (w64_id (by decide) (by decide)).trans (by decide)))) fun a hf => ?_
  refine s_ hf (r_assign hf rfl) fun a hf => ?_
  refine c_nil ?_
  replace hf : Fr 78 a [(4, .pointer (some ((⟨g1, 0, none⟩ : Addr).add 0))), (8, .pointer (some ((⟨g2, 0, none⟩ : Addr).add 0))), (10, .pointer (some ((⟨g9, 0, none⟩ : Addr).add 0))), (11, .pointer (some ((⟨g13, 0, none⟩ : Addr).add 0))), (12, .pointer (some ((⟨g14, 0, none⟩ : Addr).add 0))), (13, vI 3)] := hf.sub ⟨rfl, rfl, rfl, rfl, rfl, rfl, trivial⟩
  refine u_n ?_
  refine c_seq <| c_seq <| c_region ?_
  refine s_ hf (r_move hf rfl) fun a hf => ?_
  refine s_ hf (r_fold (r_lss hf rfl rfl) (congrArg Value.bool (show decide ((3 : Int) < 3) = false by decide))) fun a hf => ?_
  refine c_nt <| c_false hf rfl <| c_exit <| x_then ?_
  refine u_x ?_
  refine x_block <| n_then <| c_seq <| c_seq <| c_region ?_
  refine s_ hf (r_assign hf rfl) fun a hf => ?_
  refine c_nt ?_
  refine c_block (c_unr ?_)
  refine c_seq <| c_seq <| c_region ?_
  refine s_ hf (r_move hf rfl) fun a hf => ?_
  refine s_ hf (r_fold (r_lss hf rfl rfl) (congrArg Value.bool (show decide ((0 : Int) < 3) = true by decide))) fun a hf => ?_
  refine c_nt <| c_true hf rfl <| c_skip <| n_then <| c_seq <| c_block <| c_seq ?_
  obtain ⟨x22, hx23, hF⟩ := of_bind hF
  replace hf : Fr 78 a [(4, .pointer (some ((⟨g1, 0, none⟩ : Addr).add 0))), (8, .pointer (some ((⟨g2, 0, none⟩ : Addr).add 0))), (10, .pointer (some ((⟨g9, 0, none⟩ : Addr).add 0))), (12, .pointer (some ((⟨g14, 0, none⟩ : Addr).add 0))), (14, vI 0)] := hf.sub ⟨rfl, rfl, rfl, rfl, rfl, trivial⟩
  refine c_drawL (h := 10) mixed (by kernel_rfl) (by kernel_rfl) (fun ρ w => Va ρ w 1 g1 39 ([vI a0.p, vI a0.n, vI a0.m, vI a0.k, va0]) ∧ Va ρ w 2 g2 39 ([vI 0, vI 0, vI 0, vI 0, (.slice none 0 0)]) ∧ O82 ρ w w0 3 (.slice none 0 0) ([] : List Prod) ∧ O36 ρ w w0 6 (.slice none 0 0) ([] : List (List Int)) ∧ O36 ρ w w0 7 (.slice none 0 0) ([] : List (List Int)) ∧ O36 ρ w w0 8 (.slice none 0 0) ([] : List (List Int)) ∧ Va ρ w 9 g9 97 ([va1, va2, va3]) ∧ Va ρ w 14 g14 97 ([(.slice none 0 0), (.slice none 0 0), (.slice none 0 0)])) ?_ [fun ρ w v => .pointer (some ((⟨g1, 0, none⟩ : Addr).add (0 + 0))) = v, fun ρ w v => vI a0.p = v, fun ρ w v => vI 0 = v, fun ρ w v => .pointer (some ((⟨g9, 0, none⟩ : Addr).add (0 + (0 : Int).toNat * 1))) = v, fun ρ w v => va1 = v, fun ρ w v => ∃ u24, .tuple #[u24, .bool x22.2] = v ∧ O36 ρ w w0 24 u24 x22.1, fun ρ w v => ∃ u24, .tuple #[u24, .bool x22.2] = v ∧ O36 ρ w w0 24 u24 x22.1, fun ρ w v => ∃ u24, u24 = v ∧ O36 ρ w w0 24 u24 x22.1, fun ρ w v => .bool x22.2 = v, fun ρ w v => ∃ u24, u24 = v ∧ O36 ρ w w0 24 u24 x22.1] ?_ hw ⟨o1, o2, o3, o6, o7, o8, o9, o14⟩ hf ?_ ?_
  · intro ρ w ρ' w' hE hG
    obtain ⟨o1, o2, o3, o6, o7, o8, o9, o14⟩ := hG
    exact ⟨o1.ext hE, o2.ext hE, o3.ext hE, o6.ext hE, o7.ext hE, o8.ext hE, o9.ext hE, o14.ext hE⟩
  · exact LastsL.cons (fun _ _ _ _ _ _ h => h) <| LastsL.cons (fun _ _ _ _ _ _ h => h) <| LastsL.cons (fun _ _ _ _ _ _ h => h) <| LastsL.cons (fun _ _ _ _ _ _ h => h) <| LastsL.cons (fun _ _ _ _ _ _ h => h) <| LastsL.cons (fun _ _ _ _ _ hE h => by obtain ⟨u24, h, o24⟩ := h; exact ⟨_, h, o24.ext hE⟩) <| LastsL.cons (fun _ _ _ _ _ hE h => by obtain ⟨u24, h, o24⟩ := h; exact ⟨_, h, o24.ext hE⟩) <| LastsL.cons (fun _ _ _ _ _ hE h => by obtain ⟨u24, h, o24⟩ := h; exact ⟨_, h, o24.ext hE⟩) <| LastsL.cons (fun _ _ _ _ _ _ h => h) <| LastsL.cons (fun _ _ _ _ _ hE h => by obtain ⟨u24, h, o24⟩ := h; exact ⟨_, h, o24.ext hE⟩) <| LastsL.nil
  · refine StepsB.cons ?_ <| StepsB.cons ?_ <| StepsB.cons ?_ <| StepsB.cons ?_ <| StepsB.cons ?_ <| StepsB.cons ?_ <| StepsB.cons ?_ <| StepsB.cons ?_ <| StepsB.cons ?_ <| StepsB.cons ?_ <| StepsB.nil
    · intro ρ w a hw hG hf hd K hK
      obtain ⟨o1, o2, o3, o6, o7, o8, o9, o14⟩ := hG
      exact dv_ hK hw (wn rfl) (r_fa fa39_0 hf rfl) rfl
    · intro ρ w a hw hG hf hd K hK
      obtain ⟨o1, o2, o3, o6, o7, o8, o9, o14⟩ := hG
      obtain ⟨_, hf, rfl⟩ := got (hd 0 (by kernel_rfl)) hf
      exact dv_ hK hw (wn rfl) (r_load_cell ty2 hf rfl (o1.cl.at_ 0 _ rfl)) rfl
    · intro ρ w a hw hG hf hd K hK
      obtain ⟨o1, o2, o3, o6, o7, o8, o9, o14⟩ := hG
      exact dv_ hK hw (wn rfl) (r_move hf rfl) rfl
    · intro ρ w a hw hG hf hd K hK
      obtain ⟨o1, o2, o3, o6, o7, o8, o9, o14⟩ := hG
      obtain ⟨_, hf, rfl⟩ := got (hd 2 (by kernel_rfl)) hf
      exact dv_ hK hw (wn rfl) (r_indexAddr_arr Try.underlying97 sz24 hf rfl rfl (by decide) (by decide)) rfl
    · intro ρ w a hw hG hf hd K hK
      obtain ⟨o1, o2, o3, o6, o7, o8, o9, o14⟩ := hG
      obtain ⟨_, hf, rfl⟩ := got (hd 3 (by kernel_rfl)) hf
      exact dv_ hK hw (wn rfl) (r_load_cell ty24 hf rfl (o9.cl.at_ 0 _ rfl)) rfl
    · intro ρ w a hw hG hf hd K hK
      obtain ⟨o1, o2, o3, o6, o7, o8, o9, o14⟩ := hG
      obtain ⟨_, hf, rfl⟩ := got (hd 1 (by kernel_rfl)) hf
      obtain ⟨_, hf, rfl⟩ := got (hd 4 (by kernel_rfl)) hf
      refine dc_ hK hw (wn rfl) (r_fn en57 hf rfl) (spec_l04Inverse_ok (h1.now hw) hx23) fun v w' hΦ => ?_
      obtain ⟨hb, hΦ⟩ := hΦ
      obtain ⟨u24, rfl, hr25⟩ := hΦ
      have hE := Ext.new (ρ := ρ) 24 hb
      have o24 := Fresh.own (ρ := ρ) (B := w0.heap.size) hr25 hw.below.size 24
      exact ⟨_, hw.new 24 hb, hE, ex_ <| an_ rfl <| o24⟩
    · intro ρ w a hw hG hf hd K hK
      obtain ⟨o1, o2, o3, o6, o7, o8, o9, o14⟩ := hG
      obtain ⟨_, hf, ⟨u24, rfl, o24⟩⟩ := got (hd 5 (by kernel_rfl)) hf
      exact dv_ hK hw (wn rfl) (r_move hf rfl) (ex_ <| an_ rfl <| o24)
    · intro ρ w a hw hG hf hd K hK
      obtain ⟨o1, o2, o3, o6, o7, o8, o9, o14⟩ := hG
      obtain ⟨_, hf, ⟨u24, rfl, o24⟩⟩ := got (hd 6 (by kernel_rfl)) hf
      exact dv_ hK hw (wn rfl) (r_extract hf rfl rfl) (ex_ <| an_ rfl <| o24)
    · intro ρ w a hw hG hf hd K hK
      obtain ⟨o1, o2, o3, o6, o7, o8, o9, o14⟩ := hG
      obtain ⟨_, hf, ⟨u24, rfl, o24⟩⟩ := got (hd 6 (by kernel_rfl)) hf
      exact dv_ hK hw (wn rfl) (r_extract hf rfl rfl) rfl
    · intro ρ w a hw hG hf hd K hK
      obtain ⟨o1, o2, o3, o6, o7, o8, o9, o14⟩ := hG
      obtain ⟨_, hf, ⟨u24, rfl, o24⟩⟩ := got (hd 7 (by kernel_rfl)) hf
      exact dv_ hK hw (wn rfl) (r_assign hf rfl) (ex_ <| an_ rfl <| o24)
  intro ρ w a hw hG hf hd
  obtain ⟨o1, o2, o3, o6, o7, o8, o9, o14⟩ := hG
  obtain ⟨_, hf, rfl⟩ := got (hd 8 (by decide)) hf
  obtain ⟨_, hf, ⟨u24, rfl, o24⟩⟩ := got (hd 9 (by decide)) hf
  refine s_ hf (r_assign hf rfl) fun a hf => ?_
  refine c_nt <| c_seq <| c_seq <| c_region ?_
  refine s_ hf (r_move hf rfl) fun a hf => ?_
  refine s_ hf (r_not hf rfl) fun a hf => ?_
  refine c_nt ?_
  rcases of_ite hF with ⟨hb26, hF⟩ | ⟨hb26, hF⟩
  · refine c_ift hf rfl hb26 <| c_seq <| c_region ?_
    have o25 : Ow (kf cProd) 82 ρ w w0.heap.size 25 (.slice none 0 0) [] := Ow.nil _ _ _ _ _ _
    refine s_ hf (r_build_struct (pl := [(0, 1), (1, 1), (2, 1), (3, 1), (4, 1)]) (vs := []) (res := ([vI 0, vI 0, vI 0, vI 0, (.slice none 0 0)]).toArray) Try.underlying39 (by kernel_rfl) ze39 hf rfl rfl rfl) fun a hf => ?_
    refine sk_ hf (r_store_w (cs' := [vI 0, vI 0, vI 0, vI 0, (.slice none 0 0)]) hw o2 (by decide) ty39 rfl rfl (one_sch o25.ro.one) hf rfl rfl rfl) fun a w hf hΦ => ?_
    obtain ⟨hw, hA, o2⟩ := hΦ
    replace o1 := o1.adv hA (by decide)
    replace o3 := o3.adv hA (by decide)
    replace o6 := o6.adv hA (by decide)
    replace o7 := o7.adv hA (by decide)
    replace o8 := o8.adv hA (by decide)
    replace o9 := o9.adv hA (by decide)
    replace o14 := o14.adv hA (by decide)
    replace o24 := o24.adv hA (by decide)
    replace o25 := o25.adv hA (by decide)
    refine s_ hf (r_assign hf rfl) fun a hf => ?_
    refine c_nt <| c_retc ?_
    obtain rfl := Option.some.inj hF
    refine r_then <| r_block <| r_then ?_
    refine u_r ?_
    refine r_block <| r_then <| c_ret hf (res_ct Try.results44 ty39 hf rfl o2.cl rfl rfl) ?_
    exact ⟨_, rfl, hw.below, ⟨_, rfl, o25.out⟩⟩
  refine c_iff hf rfl hb26 <| c_skip <| n_then <| c_region ?_
  refine s_ hf (r_move hf rfl) fun a hf => ?_
  refine s_ hf (r_move hf rfl) fun a hf => ?_
  refine s_ hf (r_indexAddr_arr Try.underlying97 sz24 hf rfl rfl (by decide) (by decide)) fun a hf => ?_
  refine sk_ hf (r_store_c hw o14 (by decide) ty24 (Nat.le_of_ble_eq_true rfl) hf rfl rfl o24.ro.cells1 o24.ro.one) fun a w hf hΦ => ?_
  obtain ⟨hw, hA, o14⟩ := hΦ
  replace o1 := o1.adv hA (by decide)
  replace o2 := o2.adv hA (by decide)
  replace o3 := o3.adv hA (by decide)
  replace o6 := o6.adv hA (by decide)
  replace o7 := o7.adv hA (by decide)
  replace o8 := o8.adv hA (by decide)
  replace o9 := o9.adv hA (by decide)
  replace o24 := o24.adv hA (by decide)
  replace o14 : Va ρ w 14 g14 97 ([u24, (.slice none 0 0), (.slice none 0 0)]) := o14
  refine c_nil <| n_block <| n_then <| c_region ?_
  refine s_ hf (r_move hf rfl) fun a hf => ?_
  refine s_ hf (r_fold (r_add hf rfl rfl) (congrArg (Value.int .i64) (show w64 ((0 : Int) + 1) = 1 from (w64_id (by decide) (by decide)).trans (by decide)))) fun a hf => ?_
  refine s_ hf (r_assign hf rfl) fun a hf => ?_
  refine c_nil ?_
  replace hf : Fr 78 a [(4, .pointer (some ((⟨g1, 0, none⟩ : Addr).add 0))), (8, .pointer (some ((⟨g2, 0, none⟩ : Addr).add 0))), (10, .pointer (some ((⟨g9, 0, none⟩ : Addr).add 0))), (12, .pointer (some ((⟨g14, 0, none⟩ : Addr).add 0))), (14, vI 1)] := hf.sub ⟨rfl, rfl, rfl, rfl, rfl, trivial⟩
  refine u_n ?_
  refine c_seq <| c_seq <| c_region ?_
  refine s_ hf (r_move hf rfl) fun a hf => ?_
  refine s_ hf (r_fold (r_lss hf rfl rfl) (congrArg Value.bool (show decide ((1 : Int) < 3) = true by decide))) fun a hf => ?_
  refine c_nt <| c_true hf rfl <| c_skip <| n_then <| c_seq <| c_block <| c_seq ?_
  obtain ⟨x27, hx28, hF⟩ := of_bind hF
  replace hf : Fr 78 a [(4, .pointer (some ((⟨g1, 0, none⟩ : Addr).add 0))), (8, .pointer (some ((⟨g2, 0, none⟩ : Addr).add 0))), (10, .pointer (some ((⟨g9, 0, none⟩ : Addr).add 0))), (12, .pointer (some ((⟨g14, 0, none⟩ : Addr).add 0))), (14, vI 1)] := hf.sub ⟨rfl, rfl, rfl, rfl, rfl, trivial⟩
  refine c_drawL (h := 10) mixed (by kernel_rfl) (by kernel_rfl) (fun ρ w => Va ρ w 1 g1 39 ([vI a0.p, vI a0.n, vI a0.m, vI a0.k, va0]) ∧ Va ρ w 2 g2 39 ([vI 0, vI 0, vI 0, vI 0, (.slice none 0 0)]) ∧ O82 ρ w w0 3 (.slice none 0 0) ([] : List Prod) ∧ O36 ρ w w0 7 (.slice none 0 0) ([] : List (List Int)) ∧ O36 ρ w w0 8 (.slice none 0 0) ([] : List (List Int)) ∧ Va ρ w 9 g9 97 ([va1, va2, va3]) ∧ Va ρ w 14 g14 97 ([u24, (.slice none 0 0), (.slice none 0 0)]) ∧ O36 ρ w w0 24 u24 x22.1) ?_ [fun ρ w v => .pointer (some ((⟨g1, 0, none⟩ : Addr).add (0 + 0))) = v, fun ρ w v => vI a0.p = v, fun ρ w v => vI 1 = v, fun ρ w v => .pointer (some ((⟨g9, 0, none⟩ : Addr).add (0 + (1 : Int).toNat * 1))) = v, fun ρ w v => va2 = v, fun ρ w v => ∃ u29, .tuple #[u29, .bool x27.2] = v ∧ O36 ρ w w0 26 u29 x27.1, fun ρ w v => ∃ u29, .tuple #[u29, .bool x27.2] = v ∧ O36 ρ w w0 26 u29 x27.1, fun ρ w v => ∃ u29, u29 = v ∧ O36 ρ w w0 26 u29 x27.1, fun ρ w v => .bool x27.2 = v, fun ρ w v => ∃ u29, u29 = v ∧ O36 ρ w w0 26 u29 x27.1] ?_ hw ⟨o1, o2, o3, o7, o8, o9, o14, o24⟩ hf ?_ ?_
  · intro ρ w ρ' w' hE hG
    obtain ⟨o1, o2, o3, o7, o8, o9, o14, o24⟩ := hG
    exact ⟨o1.ext hE, o2.ext hE, o3.ext hE, o7.ext hE, o8.ext hE, o9.ext hE, o14.ext hE, o24.ext hE⟩
  · exact LastsL.cons (fun _ _ _ _ _ _ h => h) <| LastsL.cons (fun _ _ _ _ _ _ h => h) <| LastsL.cons (fun _ _ _ _ _ _ h => h) <| LastsL.cons (fun _ _ _ _ _ _ h => h) <| LastsL.cons (fun _ _ _ _ _ _ h => h) <| LastsL.cons (fun _ _ _ _ _ hE h => by obtain ⟨u29, h, o26⟩ := h; exact ⟨_, h, o26.ext hE⟩) <| LastsL.cons (fun _ _ _ _ _ hE h => by obtain ⟨u29, h, o26⟩ := h; exact ⟨_, h, o26.ext hE⟩) <| LastsL.cons (fun _ _ _ _ _ hE h => by obtain ⟨u29, h, o26⟩ := h; exact ⟨_, h, o26.ext hE⟩) <| LastsL.cons (fun _ _ _ _ _ _ h => h) <| LastsL.cons (fun _ _ _ _ _ hE h => by obtain ⟨u29, h, o26⟩ := h; exact ⟨_, h, o26.ext hE⟩) <| LastsL.nil
  · refine StepsB.cons ?_ <| StepsB.cons ?_ <| StepsB.cons ?_ <| StepsB.cons ?_ <| StepsB.cons ?_ <| StepsB.cons ?_ <| StepsB.cons ?_ <| StepsB.cons ?_ <| StepsB.cons ?_ <| StepsB.cons ?_ <| StepsB.nil
    · intro ρ w a hw hG hf hd K hK
      obtain ⟨o1, o2, o3, o7, o8, o9, o14, o24⟩ := hG
      exact dv_ hK hw (wn rfl) (r_fa fa39_0 hf rfl) rfl
    · intro ρ w a hw hG hf hd K hK
      obtain ⟨o1, o2, o3, o7, o8, o9, o14, o24⟩ := hG
      obtain ⟨_, hf, rfl⟩ := got (hd 0 (by kernel_rfl)) hf
      exact dv_ hK hw (wn rfl) (r_load_cell ty2 hf rfl (o1.cl.at_ 0 _ rfl)) rfl
    · intro ρ w a hw hG hf hd K hK
      obtain ⟨o1, o2, o3, o7, o8, o9, o14, o24⟩ := hG
      exact dv_ hK hw (wn rfl) (r_move hf rfl) rfl
    · intro ρ w a hw hG hf hd K hK
      obtain ⟨o1, o2, o3, o7, o8, o9, o14, o24⟩ := hG
      obtain ⟨_, hf, rfl⟩ := got (hd 2 (by kernel_rfl)) hf
      exact dv_ hK hw (wn rfl) (r_indexAddr_arr Try.underlying97 sz24 hf rfl rfl (by decide) (by decide)) rfl
    · intro ρ w a hw hG hf hd K hK
      obtain ⟨o1, o2, o3, o7, o8, o9, o14, o24⟩ := hG
      obtain ⟨_, hf, rfl⟩ := got (hd 3 (by kernel_rfl)) hf
      exact dv_ hK hw (wn rfl) (r_load_cell ty24 hf rfl (o9.cl.at_ 1 _ rfl)) rfl
    · intro ρ w a hw hG hf hd K hK
      obtain ⟨o1, o2, o3, o7, o8, o9, o14, o24⟩ := hG
      obtain ⟨_, hf, rfl⟩ := got (hd 1 (by kernel_rfl)) hf
      obtain ⟨_, hf, rfl⟩ := got (hd 4 (by kernel_rfl)) hf
      refine dc_ hK hw (wn rfl) (r_fn en57 hf rfl) (spec_l04Inverse_ok (h2.now hw) hx28) fun v w' hΦ => ?_
      obtain ⟨hb, hΦ⟩ := hΦ
      obtain ⟨u29, rfl, hr30⟩ := hΦ
      have hE := Ext.new (ρ := ρ) 26 hb
      have o26 := Fresh.own (ρ := ρ) (B := w0.heap.size) hr30 hw.below.size 26
      exact ⟨_, hw.new 26 hb, hE, ex_ <| an_ rfl <| o26⟩
    · intro ρ w a hw hG hf hd K hK
      obtain ⟨o1, o2, o3, o7, o8, o9, o14, o24⟩ := hG
      obtain ⟨_, hf, ⟨u29, rfl, o26⟩⟩ := got (hd 5 (by kernel_rfl)) hf
      exact dv_ hK hw (wn rfl) (r_move hf rfl) (ex_ <| an_ rfl <| o26)
    · intro ρ w a hw hG hf hd K hK
      obtain ⟨o1, o2, o3, o7, o8, o9, o14, o24⟩ := hG
      obtain ⟨_, hf, ⟨u29, rfl, o26⟩⟩ := got (hd 6 (by kernel_rfl)) hf
      exact dv_ hK hw (wn rfl) (r_extract hf rfl rfl) (ex_ <| an_ rfl <| o26)
    · intro ρ w a hw hG hf hd K hK
      obtain ⟨o1, o2, o3, o7, o8, o9, o14, o24⟩ := hG
      obtain ⟨_, hf, ⟨u29, rfl, o26⟩⟩ := got (hd 6 (by kernel_rfl)) hf
      exact dv_ hK hw (wn rfl) (r_extract hf rfl rfl) rfl
    · intro ρ w a hw hG hf hd K hK
      obtain ⟨o1, o2, o3, o7, o8, o9, o14, o24⟩ := hG
      obtain ⟨_, hf, ⟨u29, rfl, o26⟩⟩ := got (hd 7 (by kernel_rfl)) hf
      exact dv_ hK hw (wn rfl) (r_assign hf rfl) (ex_ <| an_ rfl <| o26)
  intro ρ w a hw hG hf hd
  obtain ⟨o1, o2, o3, o7, o8, o9, o14, o24⟩ := hG
  obtain ⟨_, hf, rfl⟩ := got (hd 8 (by decide)) hf
  obtain ⟨_, hf, ⟨u29, rfl, o26⟩⟩ := got (hd 9 (by decide)) hf
  refine s_ hf (r_assign hf rfl) fun a hf => ?_
  refine c_nt <| c_seq <| c_seq <| c_region ?_
  refine s_ hf (r_move hf rfl) fun a hf => ?_
  refine s_ hf (r_not hf rfl) fun a hf => ?_
  refine c_nt ?_
  rcases of_ite hF with ⟨hb31, hF⟩ | ⟨hb31, hF⟩
  · refine c_ift hf rfl hb31 <| c_seq <| c_region ?_
    have o27 : Ow (kf cProd) 82 ρ w w0.heap.size 27 (.slice none 0 0) [] := Ow.nil _ _ _ _ _ _
    refine s_ hf (r_build_struct (pl := [(0, 1), (1, 1), (2, 1), (3, 1), (4, 1)]) (vs := []) (res := ([vI 0, vI 0, vI 0, vI 0, (.slice none 0 0)]).toArray) Try.underlying39 (by kernel_rfl) ze39 hf rfl rfl rfl) fun a hf => ?_
    refine sk_ hf (r_store_w (cs' := [vI 0, vI 0, vI 0, vI 0, (.slice none 0 0)]) hw o2 (by decide) ty39 rfl rfl (one_sch o27.ro.one) hf rfl rfl rfl) fun a w hf hΦ => ?_
    obtain ⟨hw, hA, o2⟩ := hΦ
    replace o1 := o1.adv hA (by decide)
    replace o3 := o3.adv hA (by decide)
    replace o7 := o7.adv hA (by decide)
    replace o8 := o8.adv hA (by decide)
    replace o9 := o9.adv hA (by decide)
    replace o14 := o14.adv hA (by decide)
    replace o24 := o24.adv hA (by decide)
    replace o26 := o26.adv hA (by decide)
    replace o27 := o27.adv hA (by decide)
    refine s_ hf (r_assign hf rfl) fun a hf => ?_
    refine c_nt <| c_retc ?_
    obtain rfl := Option.some.inj hF
    refine r_then <| r_block <| r_then ?_
    refine u_r ?_
    refine r_block <| r_then <| c_ret hf (res_ct Try.results44 ty39 hf rfl o2.cl rfl rfl) ?_
    exact ⟨_, rfl, hw.below, ⟨_, rfl, o27.out⟩⟩
  refine c_iff hf rfl hb31 <| c_skip <| n_then <| c_region ?_
  refine s_ hf (r_move hf rfl) fun a hf => ?_
  refine s_ hf (r_move hf rfl) fun a hf => ?_
  refine s_ hf (r_indexAddr_arr Try.underlying97 sz24 hf rfl rfl (by decide) (by decide)) fun a hf => ?_
  refine sk_ hf (r_store_c hw o14 (by decide) ty24 (Nat.le_of_ble_eq_true rfl) hf rfl rfl o26.ro.cells1 o26.ro.one) fun a w hf hΦ => ?_
  obtain ⟨hw, hA, o14⟩ := hΦ
  replace o1 := o1.adv hA (by decide)
  replace o2 := o2.adv hA (by decide)
  replace o3 := o3.adv hA (by decide)
  replace o7 := o7.adv hA (by decide)
  replace o8 := o8.adv hA (by decide)
  replace o9 := o9.adv hA (by decide)
  replace o24 := o24.adv hA (by decide)
  replace o26 := o26.adv hA (by decide)
  replace o14 : Va ρ w 14 g14 97 ([u24, u29, (.slice none 0 0)]) := o14
  refine c_nil <| n_block <| n_then <| c_region ?_
  refine s_ hf (r_move hf rfl) fun a hf => ?_
  refine s_ hf (r_fold (r_add hf rfl rfl) (congrArg (Value.int .i64) (show w64 ((1 : Int) + 1) = 2 from (w64_id (by decide) (by decide)).trans (by decide)))) fun a hf => ?_
  refine s_ hf (r_assign hf rfl) fun a hf => ?_
  refine c_nil ?_
  replace hf : Fr 78 a [(4, .pointer (some ((⟨g1, 0, none⟩ : Addr).add 0))), (8, .pointer (some ((⟨g2, 0, none⟩ : Addr).add 0))), (10, .pointer (some ((⟨g9, 0, none⟩ : Addr).add 0))), (12, .pointer (some ((⟨g14, 0, none⟩ : Addr).add 0))), (14, vI 2)] := hf.sub ⟨rfl, rfl, rfl, rfl, rfl, trivial⟩
  refine u_n ?_
  refine c_seq <| c_seq <| c_region ?_
  refine s_ hf (r_move hf rfl) fun a hf => ?_
  refine s_ hf (r_fold (r_lss hf rfl rfl) (congrArg Value.bool (show decide ((2 : Int) < 3) = true by decide))) fun a hf => ?_
  refine c_nt <| c_true hf rfl <| c_skip <| n_then <| c_seq <| c_block <| c_seq ?_
  obtain ⟨x32, hx33, hF⟩ := of_bind hF
  replace hf : Fr 78 a [(4, .pointer (some ((⟨g1, 0, none⟩ : Addr).add 0))), (8, .pointer (some ((⟨g2, 0, none⟩ : Addr).add 0))), (10, .pointer (some ((⟨g9, 0, none⟩ : Addr).add 0))), (12, .pointer (some ((⟨g14, 0, none⟩ : Addr).add 0))), (14, vI 2)] := hf.sub ⟨rfl, rfl, rfl, rfl, rfl, trivial⟩
  refine c_drawL (h := 10) mixed (by kernel_rfl) (by kernel_rfl) (fun ρ w => Va ρ w 1 g1 39 ([vI a0.p, vI a0.n, vI a0.m, vI a0.k, va0]) ∧ Va ρ w 2 g2 39 ([vI 0, vI 0, vI 0, vI 0, (.slice none 0 0)]) ∧ O82 ρ w w0 3 (.slice none 0 0) ([] : List Prod) ∧ O36 ρ w w0 8 (.slice none 0 0) ([] : List (List Int)) ∧ Va ρ w 9 g9 97 ([va1, va2, va3]) ∧ Va ρ w 14 g14 97 ([u24, u29, (.slice none 0 0)]) ∧ O36 ρ w w0 24 u24 x22.1 ∧ O36 ρ w w0 26 u29 x27.1) ?_ [fun ρ w v => .pointer (some ((⟨g1, 0, none⟩ : Addr).add (0 + 0))) = v, fun ρ w v => vI a0.p = v, fun ρ w v => vI 2 = v, fun ρ w v => .pointer (some ((⟨g9, 0, none⟩ : Addr).add (0 + (2 : Int).toNat * 1))) = v, fun ρ w v => va3 = v, fun ρ w v => ∃ u34, .tuple #[u34, .bool x32.2] = v ∧ O36 ρ w w0 28 u34 x32.1, fun ρ w v => ∃ u34, .tuple #[u34, .bool x32.2] = v ∧ O36 ρ w w0 28 u34 x32.1, fun ρ w v => ∃ u34, u34 = v ∧ O36 ρ w w0 28 u34 x32.1, fun ρ w v => .bool x32.2 = v, fun ρ w v => ∃ u34, u34 = v ∧ O36 ρ w w0 28 u34 x32.1] ?_ hw ⟨o1, o2, o3, o8, o9, o14, o24, o26⟩ hf ?_ ?_
  · intro ρ w ρ' w' hE hG
    obtain ⟨o1, o2, o3, o8, o9, o14, o24, o26⟩ := hG
    exact ⟨o1.ext hE, o2.ext hE, o3.ext hE, o8.ext hE, o9.ext hE, o14.ext hE, o24.ext hE, o26.ext hE⟩
  · exact LastsL.cons (fun _ _ _ _ _ _ h => h) <| LastsL.cons (fun _ _ _ _ _ _ h => h) <| LastsL.cons (fun _ _ _ _ _ _ h => h) <| LastsL.cons (fun _ _ _ _ _ _ h => h) <| LastsL.cons (fun _ _ _ _ _ _ h => h) <| LastsL.cons (fun _ _ _ _ _ hE h => by obtain ⟨u34, h, o28⟩ := h; exact ⟨_, h, o28.ext hE⟩) <| LastsL.cons (fun _ _ _ _ _ hE h => by obtain ⟨u34, h, o28⟩ := h; exact ⟨_, h, o28.ext hE⟩) <| LastsL.cons (fun _ _ _ _ _ hE h => by obtain ⟨u34, h, o28⟩ := h; exact ⟨_, h, o28.ext hE⟩) <| LastsL.cons (fun _ _ _ _ _ _ h => h) <| LastsL.cons (fun _ _ _ _ _ hE h => by obtain ⟨u34, h, o28⟩ := h; exact ⟨_, h, o28.ext hE⟩) <| LastsL.nil
  · refine StepsB.cons ?_ <| StepsB.cons ?_ <| StepsB.cons ?_ <| StepsB.cons ?_ <| StepsB.cons ?_ <| StepsB.cons ?_ <| StepsB.cons ?_ <| StepsB.cons ?_ <| StepsB.cons ?_ <| StepsB.cons ?_ <| StepsB.nil
    · intro ρ w a hw hG hf hd K hK
      obtain ⟨o1, o2, o3, o8, o9, o14, o24, o26⟩ := hG
      exact dv_ hK hw (wn rfl) (r_fa fa39_0 hf rfl) rfl
    · intro ρ w a hw hG hf hd K hK
      obtain ⟨o1, o2, o3, o8, o9, o14, o24, o26⟩ := hG
      obtain ⟨_, hf, rfl⟩ := got (hd 0 (by kernel_rfl)) hf
      exact dv_ hK hw (wn rfl) (r_load_cell ty2 hf rfl (o1.cl.at_ 0 _ rfl)) rfl
    · intro ρ w a hw hG hf hd K hK
      obtain ⟨o1, o2, o3, o8, o9, o14, o24, o26⟩ := hG
      exact dv_ hK hw (wn rfl) (r_move hf rfl) rfl
    · intro ρ w a hw hG hf hd K hK
      obtain ⟨o1, o2, o3, o8, o9, o14, o24, o26⟩ := hG
      obtain ⟨_, hf, rfl⟩ := got (hd 2 (by kernel_rfl)) hf
      exact dv_ hK hw (wn rfl) (r_indexAddr_arr Try.underlying97 sz24 hf rfl rfl (by decide) (by decide)) rfl
    · intro ρ w a hw hG hf hd K hK
      obtain ⟨o1, o2, o3, o8, o9, o14, o24, o26⟩ := hG
      obtain ⟨_, hf, rfl⟩ := got (hd 3 (by kernel_rfl)) hf
      exact dv_ hK hw (wn rfl) (r_load_cell ty24 hf rfl (o9.cl.at_ 2 _ rfl)) rfl
    · intro ρ w a hw hG hf hd K hK
      obtain ⟨o1, o2, o3, o8, o9, o14, o24, o26⟩ := hG
      obtain ⟨_, hf, rfl⟩ := got (hd 1 (by kernel_rfl)) hf
      obtain ⟨_, hf, rfl⟩ := got (hd 4 (by kernel_rfl)) hf
      refine dc_ hK hw (wn rfl) (r_fn en57 hf rfl) (spec_l04Inverse_ok (h3.now hw) hx33) fun v w' hΦ => ?_
      obtain ⟨hb, hΦ⟩ := hΦ
      obtain ⟨u34, rfl, hr35⟩ := hΦ
      have hE := Ext.new (ρ := ρ) 28 hb
      have o28 := Fresh.own (ρ := ρ) (B := w0.heap.size) hr35 hw.below.size 28
      exact ⟨_, hw.new 28 hb, hE, ex_ <| an_ rfl <| o28⟩
    · intro ρ w a hw hG hf hd K hK
      obtain ⟨o1, o2, o3, o8, o9, o14, o24, o26⟩ := hG
      obtain ⟨_, hf, ⟨u34, rfl, o28⟩⟩ := got (hd 5 (by kernel_rfl)) hf
      exact dv_ hK hw (wn rfl) (r_move hf rfl) (ex_ <| an_ rfl <| o28)
    · intro ρ w a hw hG hf hd K hK
      obtain ⟨o1, o2, o3, o8, o9, o14, o24, o26⟩ := hG
      obtain ⟨_, hf, ⟨u34, rfl, o28⟩⟩ := got (hd 6 (by kernel_rfl)) hf
      exact dv_ hK hw (wn rfl) (r_extract hf rfl rfl) (ex_ <| an_ rfl <| o28)
    · intro ρ w a hw hG hf hd K hK
      obtain ⟨o1, o2, o3, o8, o9, o14, o24, o26⟩ := hG
      obtain ⟨_, hf, ⟨u34, rfl, o28⟩⟩ := got (hd 6 (by kernel_rfl)) hf
      exact dv_ hK hw (wn rfl) (r_extract hf rfl rfl) rfl
    · intro ρ w a hw hG hf hd K hK
      obtain ⟨o1, o2, o3, o8, o9, o14, o24, o26⟩ := hG
      obtain ⟨_, hf, ⟨u34, rfl, o28⟩⟩ := got (hd 7 (by kernel_rfl)) hf
      exact dv_ hK hw (wn rfl) (r_assign hf rfl) (ex_ <| an_ rfl <| o28)
  intro ρ w a hw hG hf hd
  obtain ⟨o1, o2, o3, o8, o9, o14, o24, o26⟩ := hG
  obtain ⟨_, hf, rfl⟩ := got (hd 8 (by decide)) hf
  obtain ⟨_, hf, ⟨u34, rfl, o28⟩⟩ := got (hd 9 (by decide)) hf
  refine s_ hf (r_assign hf rfl) fun a hf => ?_
  refine c_nt <| c_seq <| c_seq <| c_region ?_
  refine s_ hf (r_move hf rfl) fun a hf => ?_
  refine s_ hf (r_not hf rfl) fun a hf => ?_
  refine c_nt ?_
  rcases of_ite hF with ⟨hb36, hF⟩ | ⟨hb36, hF⟩
  · refine c_ift hf rfl hb36 <| c_seq <| c_region ?_
    have o29 : Ow (kf cProd) 82 ρ w w0.heap.size 29 (.slice none 0 0) [] := Ow.nil _ _ _ _ _ _
    refine s_ hf (r_build_struct (pl := [(0, 1), (1, 1), (2, 1), (3, 1), (4, 1)]) (vs := []) (res := ([vI 0, vI 0, vI 0, vI 0, (.slice none 0 0)]).toArray) Try.underlying39 (by kernel_rfl) ze39 hf rfl rfl rfl) fun a hf => ?_
    refine sk_ hf (r_store_w (cs' := [vI 0, vI 0, vI 0, vI 0, (.slice none 0 0)]) hw o2 (by decide) ty39 rfl rfl (one_sch o29.ro.one) hf rfl rfl rfl) fun a w hf hΦ => ?_
    obtain ⟨hw, hA, o2⟩ := hΦ
    replace o1 := o1.adv hA (by decide)
    replace o3 := o3.adv hA (by decide)
    replace o8 := o8.adv hA (by decide)
    replace o9 := o9.adv hA (by decide)
    replace o14 := o14.adv hA (by decide)
    replace o24 := o24.adv hA (by decide)
    replace o26 := o26.adv hA (by decide)
    replace o28 := o28.adv hA (by decide)
    replace o29 := o29.adv hA (by decide)
    refine s_ hf (r_assign hf rfl) fun a hf => ?_
    refine c_nt <| c_retc ?_
    obtain rfl := Option.some.inj hF
    refine r_then <| r_block <| r_then ?_
    refine u_r ?_
    refine r_block <| r_then <| c_ret hf (res_ct Try.results44 ty39 hf rfl o2.cl rfl rfl) ?_
    exact ⟨_, rfl, hw.below, ⟨_, rfl, o29.out⟩⟩
  refine c_iff hf rfl hb36 <| c_skip <| n_then <| c_region ?_
  refine s_ hf (r_move hf rfl) fun a hf => ?_
  refine s_ hf (r_move hf rfl) fun a hf => ?_
  refine s_ hf (r_indexAddr_arr Try.underlying97 sz24 hf rfl rfl (by decide) (by decide)) fun a hf => ?_
  refine sk_ hf (r_store_c hw o14 (by decide) ty24 (Nat.le_of_ble_eq_true rfl) hf rfl rfl o28.ro.cells1 o28.ro.one) fun a w hf hΦ => ?_
  obtain ⟨hw, hA, o14⟩ := hΦ
  replace o1 := o1.adv hA (by decide)
  replace o2 := o2.adv hA (by decide)
  replace o3 := o3.adv hA (by decide)
  replace o8 := o8.adv hA (by decide)
  replace o9 := o9.adv hA (by decide)
  replace o24 := o24.adv hA (by decide)
  replace o26 := o26.adv hA (by decide)
  replace o28 := o28.adv hA (by decide)
  replace o14 : Va ρ w 14 g14 97 ([u24, u29, u34]) := o14
  refine c_nil <| n_block <| n_then <| c_region ?_
  refine s_ hf (r_move hf rfl) fun a hf => ?_
  refine s_ hf (r_fold (r_add hf rfl rfl) (congrArg (Value.int .i64) (show w64 ((2 : Int) + 1) = 3 from (w64_id (by decide) (by decide)).trans (by decide)))) fun a hf => ?_
  refine s_ hf (r_assign hf rfl) fun a hf => ?_
  refine c_nil ?_
  replace hf : Fr 78 a [(4, .pointer (some ((⟨g1, 0, none⟩ : Addr).add 0))), (8, .pointer (some ((⟨g2, 0, none⟩ : Addr).add 0))), (10, .pointer (some ((⟨g9, 0, none⟩ : Addr).add 0))), (12, .pointer (some ((⟨g14, 0, none⟩ : Addr).add 0))), (14, vI 3)] := hf.sub ⟨rfl, rfl, rfl, rfl, rfl, trivial⟩
  refine u_n ?_
  refine c_seq <| c_seq <| c_region ?_
  refine s_ hf (r_move hf rfl) fun a hf => ?_
  refine s_ hf (r_fold (r_lss hf rfl rfl) (congrArg Value.bool (show decide ((3 : Int) < 3) = false by decide))) fun a hf => ?_
  refine c_nt <| c_false hf rfl <| c_exit <| x_then ?_
  refine u_x ?_
  refine x_block <| n_then <| c_seq <| c_region ?_
  refine s_ hf (r_load_agg ty39 hf rfl o1.cl rfl) fun a hf => ?_
  refine s_ hf (r_load_agg ty97 hf rfl o9.cl rfl) fun a hf => ?_
  refine s_ hf (r_load_agg ty97 hf rfl o14.cl rfl) fun a hf => ?_
  obtain ⟨x37, hx38, hF⟩ := of_bind hF
  refine st_fn 30 hw hf rfl rfl (by decide) (r_fn en94 hf rfl) (spec_l04Change_ok (a0 := a0) (a1 := (a1, a2, a3)) (a2 := (x22.1, x27.1, x32.1)) (h0.now hw) (h1.now hw) (h2.now hw) (h3.now hw) o24.ro o26.ro o28.ro hx38) fun a v w ρ hf hw hE hN hΦ => ?_
  obtain ⟨u39, rfl, hr40⟩ := hΦ
  replace o1 := o1.ext hE
  replace o2 := o2.ext hE
  replace o3 := o3.ext hE
  replace o9 := o9.ext hE
  replace o14 := o14.ext hE
  replace o24 := o24.ext hE
  replace o26 := o26.ext hE
  replace o28 := o28.ext hE
  have o30 := hN hr40
  refine sk_ hf (r_store_w (cs' := [vI x37.p, vI x37.n, vI x37.m, vI x37.k, u39]) hw o2 (by decide) ty39 rfl rfl (one_sch o30.ro.one) hf rfl rfl rfl) fun a w hf hΦ => ?_
  obtain ⟨hw, hA, o2⟩ := hΦ
  replace o1 := o1.adv hA (by decide)
  replace o3 := o3.adv hA (by decide)
  replace o9 := o9.adv hA (by decide)
  replace o14 := o14.adv hA (by decide)
  replace o24 := o24.adv hA (by decide)
  replace o26 := o26.adv hA (by decide)
  replace o28 := o28.adv hA (by decide)
  replace o30 := o30.adv hA (by decide)
  refine s_ hf (r_assign hf rfl) fun a hf => ?_
  refine c_nt <| c_retc ?_
  obtain rfl := Option.some.inj hF
  refine c_ret hf (res_ct Try.results44 ty39 hf rfl o2.cl rfl rfl) ?_
  exact ⟨_, rfl, hw.below, ⟨_, rfl, o30.out⟩⟩
/-! f45 -/
noncomputable def laws_toInt64SS_l2 (a0 : List (List Int)) (s3 : Int) (s4 : List Nat) (s5 : List (List Int)) : Option (LR (Int × (List Nat) × (List (List Int))) (List (List Int))) :=
  if (decide (s3 < (a0.length : Int))) = true then (if 0 ≤ s3 ∧ s3 < (a0.length : Int) then ((laws_toInt64S (gl [] a0 s3)).bind fun x10 => if 0 ≤ s3 ∧ s3 < (s4.length : Int) then (some (.next (w64 (s3 + 1), (s4.set s3.toNat s5.length), (s5 ++ [x10])))) else none) else none) else (some (.stop (s3, s4, s5)))
noncomputable def laws_toInt64SS (a0 : List (List Int)) : Option (List (List Int)) :=
  if 0 ≤ (a0.length : Int) ∧ (a0.length : Int) * 24 ≤ 281474976710656 then ((iter (fun s => laws_toInt64SS_l2 a0 s.1 s.2.1 s.2.2) (0, (List.replicate (a0.length : Int).toNat 0), [([] : List Int)])).bind fun o => match o with | .stop (s3, s4, s5) => (if s4.Nodup then some ((gi s4 s5)) else none) | .ret r => some r | .next _ => none) else none
theorem laws_toInt64SS_ok {w0 : World} {a0 : List (List Int)} {va0 : Value} (h0 : Ro (Kd.slice 2 (kf fI64)) w0 va0 a0) {r : List (List Int)} (hF : laws_toInt64SS a0 = some r) :
    Calls Try.prog 45 [va0].toArray w0 fun e w => ∃ v, e = .returned v ∧ Below w0.heap.size w0 w ∧ ∃ u0, u0 = v ∧ GFresh fI64 2 36 w0 w u0 r := by
  refine calls_of (k := 23) Try.func45 rfl rfl (Nat.le_of_ble_eq_true rfl) fun a hf => ?_
  replace hf : Fr 23 a [(0, va0)] := hf
  refine c_start fun w ρ hw => ?_
  unfold laws_toInt64SS at hF
  refine c_seq <| c_region ?_
  have o1 : Ow (Kd.slice 2 (kf fI64)) 36 ρ w w0.heap.size 1 (.slice none 0 0) [] := Ow.nil _ _ _ _ _ _
  refine s_ hf (r_assign hf rfl) fun a hf => ?_
  refine c_nt <| c_seq <| c_region ?_
  refine s_ hf (r_move hf rfl) fun a hf => ?_
  refine s_ hf (r_len Try.underlying24 (h0.now hw) hf rfl) fun a hf => ?_
  obtain ⟨hc1, hF⟩ := of_guard hF
  refine sx_ hf (r_make (d := fRef fun _ => nilV) (z0 := 0) 2 Try.underlying24 el36 rfl hw hf rfl hc1.1 (mk_le hc1.1 hc1.2)) fun a v2 w hf hΦ => ?_
  obtain ⟨ρ, hw, hE, o2⟩ := hΦ
  replace o1 := o1.ext hE
  replace o2 : Gd fI64 2 36 ρ w w0.heap.size 2 v2 (fun _ => nilV) (List.replicate (a0.length : Int).toNat 0) ([([] : List Int)]) := Gd.made o2 (by decide)
  refine s_ hf (r_assign hf rfl) fun a hf => ?_
  refine c_nt <| c_seq <| c_seq <| c_region ?_
  refine s_ hf (r_assign hf rfl) fun a hf => ?_
  refine c_nt ?_
  obtain ⟨ol2, ho2, hG2⟩ := of_bind hF
  clear hF
  refine c_block (c_loop (id := 0) (fun s => laws_toInt64SS_l2 a0 s.1 s.2.1 s.2.2) (fun (s : Int × (List Nat) × (List (List Int))) a w => match s with | (s3, s4, s5) => ∃ ρ f6, Wd w0 ρ w ∧ Fr 23 a [(0, va0), (3, v2), (4, vI s3)] ∧ Gd fI64 2 36 ρ w w0.heap.size 2 v2 f6 s4 s5) (fun (s : Int × (List Nat) × (List (List Int))) a w => match s with | (s3, s4, s5) => ∃ ρ f6, Wd w0 ρ w ∧ Fr 23 a [(3, v2)] ∧ Gd fI64 2 36 ρ w w0.heap.size 2 v2 f6 s4 s5) ho2 ⟨_, _, hw, hf.sub ⟨rfl, rfl, rfl, trivial⟩, o2⟩ ?_ ?_)
  · rintro ⟨s3, s4, s5⟩ lr a w ⟨ρ, f6, hw, hf, o2⟩ hF
    replace hF : laws_toInt64SS_l2 a0 s3 s4 s5 = some lr := hF
    unfold laws_toInt64SS_l2 at hF
    refine c_seq <| c_seq <| c_region ?_
    refine s_ hf (r_move hf rfl) fun a hf => ?_
    refine s_ hf (r_move hf rfl) fun a hf => ?_
    refine s_ hf (r_len Try.underlying24 (h0.now hw) hf rfl) fun a hf => ?_
    refine s_ hf (r_lss hf rfl rfl) fun a hf => ?_
    refine c_nt ?_
    rcases of_ite hF with ⟨hb7, hF⟩ | ⟨hb7, hF⟩
    rotate_left
    · refine c_iff hf rfl hb7 <| c_exit <| x_then ?_
      obtain rfl := Option.some.inj hF
      exact Rnd.stops ⟨_, _, hw, hf.sub ⟨rfl, trivial⟩, o2⟩
    refine c_ift hf rfl hb7 <| c_skip <| n_then <| c_seq <| c_block <| c_region ?_
    refine s_ hf (r_move hf rfl) fun a hf => ?_
    refine s_ hf (r_move hf rfl) fun a hf => ?_
    refine s_ hf (r_move hf rfl) fun a hf => ?_
    refine s_ hf (r_move hf rfl) fun a hf => ?_
    obtain ⟨hc8, hF⟩ := of_guard hF
    obtain ⟨ad9, c9, u9, he9, hl9, ho9⟩ := Ro.el_row h0 hc8.1 hc8.2
    refine s_ hf (r_idx Try.underlying24 sz36 hf rfl ⟨_, he9⟩ rfl hc8.1 hc8.2) fun a hf => ?_
    refine s_ hf (r_load_cell ty36 hf rfl (hl9.below hw.below)) fun a hf => ?_
    obtain ⟨x10, hx11, hF⟩ := of_bind hF
    refine st_fn 3 hw hf rfl rfl (by decide) (r_fn en95 hf rfl) (laws_toInt64S_ok (ho9.now hw) hx11) fun a v w ρ hf hw hE hN hΦ => ?_
    obtain ⟨u12, rfl, hr13⟩ := hΦ
    replace o2 := o2.ext hE
    have o3 := hN hr13
    obtain ⟨hc14, hF⟩ := of_guard hF
    obtain ⟨ad15, hl15⟩ := Ow.ce (d := fRef f6) o2.out 0 hc14.1 hc14.2
    have hn15 := o2.lt_gl hc14.1 hc14.2
    refine s_ hf (r_idx Try.underlying24 sz36 hf rfl hl15.at_ rfl hc14.1 hc14.2) fun a hf => ?_
    refine sk_ hf (r_gput (p := s3) hw (by decide) (by decide) (fun _ => by unfold lab; omega) o2 o3 hc14.1 hc14.2 hl15.at_ ty36 rfl hf rfl rfl) fun a w hf hΦ => ?_
    obtain ⟨f16, ρ, hw, hT, o2, hff16, hnu16⟩ := hΦ
    rw [hnu16] at hf
    replace hn15 : (gl 0 s4 s3) < (s5 ++ [x10]).length := by simp only [List.length_append, List.length_set]; omega
    have hn17 : s5.length < (s5 ++ [x10]).length := by simp
    refine c_nil <| n_block <| n_then <| c_region ?_
    refine s_ hf (r_move hf rfl) fun a hf => ?_
    refine s_ hf (r_add hf rfl rfl) fun a hf => ?_
    refine s_ hf (r_assign hf rfl) fun a hf => ?_
    refine c_nil ?_
    obtain rfl := Option.some.inj hF
    exact Rnd.goes ⟨_, _, hw, hf.sub ⟨rfl, rfl, rfl, trivial⟩, o2⟩
  rintro ⟨s3, s4, s5⟩ a w hs ⟨ρ, f6, hw, hf, o2⟩
  subst hs
  have hF := hG2
  dsimp only at hF
  refine x_block <| n_then <| c_seq <| c_region ?_
  refine s_ hf (r_move hf rfl) fun a hf => ?_
  refine s_ hf (r_assign hf rfl) fun a hf => ?_
  refine c_nt <| c_retc ?_
  obtain ⟨hnd, hF⟩ := of_guard hF
  obtain rfl := Option.some.inj hF
  refine c_ret hf (res_tmp Try.results45 hf rfl) ?_
  exact ⟨_, rfl, hw.below, ⟨_, rfl, o2.gout hnd⟩⟩
/-! f46 -/
noncomputable def impl_ChangeScheme_l4 (a0 : Sch) (a1 : List (List Int)) (a2 : List (List Int)) (a3 : List (List Int)) (s5 : Bool) (s6 : Int) : Option (LR (Bool × Int) (Sch × Int)) :=
  if (decide (s6 < (([a1, a2, a3] : List (List (List Int))).length : Int))) = true then (if 0 ≤ s6 ∧ s6 < (([a1, a2, a3] : List (List (List Int))).length : Int) then (((impl_isSquare a0.p (gl [] ([a1, a2, a3] : List (List (List Int))) s6)).bind fun x12 => if (!x12) = true then (some true) else (if 0 ≤ s6 ∧ s6 < (([a0.n, a0.m, a0.k]).length : Int) then (some (decide (((gl [] ([a1, a2, a3] : List (List (List Int))) s6).length : Int) ≠ (gl 0 ([a0.n, a0.m, a0.k]) s6)))) else none)).bind fun (s11 : Bool) => if s11 = true then (some (.ret ((⟨0, 0, 0, 0, ([] : List Prod)⟩ : Sch), 2))) else ((if s5 = true then ((impl_isInvertible a0.p (gl [] ([a1, a2, a3] : List (List (List Int))) s6)).bind fun x21 => some x21) else (some false)).bind fun (s19 : Bool) => some (.next (s19, w64 (s6 + 1))))) else none) else (some (.stop (s5, s6)))
noncomputable def impl_ChangeScheme (a0 : Sch) (a1 : List (List Int)) (a2 : List (List Int)) (a3 : List (List Int)) : Option (Sch × Int) :=
  (impl_IsScheme a0).bind fun x1 => if (!x1) = true then (some (((⟨0, 0, 0, 0, ([] : List Prod)⟩ : Sch), 1))) else ((iter (fun s => impl_ChangeScheme_l4 a0 a1 a2 a3 s.1 s.2) (true, 0)).bind fun o => match o with | .stop (s5, s6) => (if (!s5) = true then (some (((⟨0, 0, 0, 0, ([] : List Prod)⟩ : Sch), 5))) else ((impl_changed a0 a1 a2 a3).bind fun x24 => some ((x24, 0)))) | .ret r => some r | .next _ => none)
theorem impl_ChangeScheme_ok {w0 : World} {a0 : Sch} {a1 : List (List Int)} {a2 : List (List Int)} {a3 : List (List Int)} {va0 : Value} {va1 : Value} {va2 : Value} {va3 : Value} (h0 : Ro (kf cProd) w0 va0 a0.ps) (h1 : Ro (Kd.slice 2 (kf fI64)) w0 va1 a1) (h2 : Ro (Kd.slice 2 (kf fI64)) w0 va2 a2) (h3 : Ro (Kd.slice 2 (kf fI64)) w0 va3 a3) {r : Sch × Int} (hF : impl_ChangeScheme a0 a1 a2 a3 = some r) :
    Calls Try.prog 46 [.agg ([vI a0.p, vI a0.n, vI a0.m, vI a0.k, va0]).toArray, va1, va2, va3].toArray w0 fun e w => ∃ v, e = .returned v ∧ Below w0.heap.size w0 w ∧ ∃ u0, .tuple #[.agg [.int .i64 r.1.p, .int .i64 r.1.n, .int .i64 r.1.m, .int .i64 r.1.k, u0].toArray, .int .i64 r.2] = v ∧ Fresh (kf cProd) 82 w0 w u0 r.1.ps := by
  refine calls_of (k := 66) Try.func46 rfl rfl (Nat.le_of_ble_eq_true rfl) fun a hf => ?_
  replace hf : Fr 66 a [(0, .agg ([vI a0.p, vI a0.n, vI a0.m, vI a0.k, va0]).toArray), (1, va1), (2, va2), (3, va3)] := hf
  refine c_start fun w ρ hw => ?_
  unfold impl_ChangeScheme at hF
  refine c_seq <| c_region ?_
  refine sx_ hf (r_box (cs := [vI a0.p, vI a0.n, vI a0.m, vI a0.k, va0]) 1 hw hf rfl rfl) fun a v w hf hΦ => ?_
  obtain ⟨g1, ρ, rfl, hw, hE, o1⟩ := hΦ
  have o3 : Ow (kf cProd) 82 ρ w w0.heap.size 3 (.slice none 0 0) [] := Ow.nil _ _ _ _ _ _
  refine sx_ hf (r_alloc (cs := [vI 0, vI 0, vI 0, vI 0, (.slice none 0 0)]) 2 ze39 rfl hw) fun a v w hf hΦ => ?_
  obtain ⟨g2, ρ, rfl, hw, hE, o2⟩ := hΦ
  replace o1 := o1.ext hE
  replace o3 := o3.ext hE
  refine s_ hf (r_assign hf rfl) fun a hf => ?_
  refine c_nt <| c_seq <| c_seq <| c_region ?_
  refine s_ hf (r_load_agg ty39 hf rfl o1.cl rfl) fun a hf => ?_
  obtain ⟨x1, hx2, hF⟩ := of_bind hF
  refine st_fn 4 hw hf rfl rfl (by decide) (r_fn en84 hf rfl) (impl_IsScheme_ok (a0 := a0) (h0.now hw) hx2) fun a v w ρ hf hw hE hN hΦ => ?_
  obtain rfl := hΦ
  replace o1 := o1.ext hE
  replace o3 := o3.ext hE
  replace o2 := o2.ext hE
  refine s_ hf (r_not hf rfl) fun a hf => ?_
  refine c_nt ?_
  rcases of_ite hF with ⟨hb3, hF⟩ | ⟨hb3, hF⟩
  · refine c_ift hf rfl hb3 <| c_seq <| c_region ?_
    have o5 : Ow (kf cProd) 82 ρ w w0.heap.size 5 (.slice none 0 0) [] := Ow.nil _ _ _ _ _ _
    refine s_ hf (r_build_struct (pl := [(0, 1), (1, 1), (2, 1), (3, 1), (4, 1)]) (vs := []) (res := ([vI 0, vI 0, vI 0, vI 0, (.slice none 0 0)]).toArray) Try.underlying39 (by kernel_rfl) ze39 hf rfl rfl rfl) fun a hf => ?_
    refine sk_ hf (r_store_w (cs' := [vI 0, vI 0, vI 0, vI 0, (.slice none 0 0)]) hw o2 (by decide) ty39 rfl rfl (one_sch o5.ro.one) hf rfl rfl rfl) fun a w hf hΦ => ?_
    obtain ⟨hw, hA, o2⟩ := hΦ
    replace o1 := o1.adv hA (by decide)
    replace o3 := o3.adv hA (by decide)
    replace o5 := o5.adv hA (by decide)
    refine s_ hf (r_assign hf rfl) fun a hf => ?_
    refine c_nt <| c_retc ?_
    obtain rfl := Option.some.inj hF
    refine r_then <| c_ret hf (res_ct Try.results46 ty39 hf rfl o2.cl rfl rfl) ?_
    exact ⟨_, rfl, hw.below, ⟨_, rfl, o5.out⟩⟩
  refine c_iff hf rfl hb3 <| c_skip <| n_then <| c_seq <| c_region ?_
  refine s_ hf (r_fa fa39_1 hf rfl) fun a hf => ?_
  refine s_ hf (r_load_cell ty2 hf rfl (o1.cl.at_ 1 _ rfl)) fun a hf => ?_
  refine s_ hf (r_fa fa39_2 hf rfl) fun a hf => ?_
  refine s_ hf (r_load_cell ty2 hf rfl (o1.cl.at_ 2 _ rfl)) fun a hf => ?_
  refine s_ hf (r_fa fa39_3 hf rfl) fun a hf => ?_
  refine s_ hf (r_load_cell ty2 hf rfl (o1.cl.at_ 3 _ rfl)) fun a hf => ?_
  refine sx_ hf (r_lit (d := fI64) (xs := ([a0.n, a0.m, a0.k] : List Int)) (vs := [vI a0.n, vI a0.m, vI a0.k]) 6 Try.underlying36 el2 (Nat.le_of_ble_eq_true rfl) (Nat.le_of_ble_eq_true rfl) hw hf rfl rfl rfl) fun a v6 w hf hΦ => ?_
  obtain ⟨ρ, hw, hE, o6⟩ := hΦ
  replace o1 := o1.ext hE
  replace o3 := o3.ext hE
  replace o2 := o2.ext hE
  refine s_ hf (r_assign hf rfl) fun a hf => ?_
  refine s_ hf (r_assign hf rfl) fun a hf => ?_
  refine c_nt <| c_seq <| c_seq <| c_region ?_
  refine s_ hf (r_move hf rfl) fun a hf => ?_
  refine s_ hf (r_move hf rfl) fun a hf => ?_
  refine s_ hf (r_move hf rfl) fun a hf => ?_
  refine sx_ hf (r_lit_ro (d := (Kd.slice 36 (Kd.slice 2 (kf fI64)))) (m := 1) (xs := ([a1, a2, a3] : List (List (List Int)))) (raws := [⟨[va1], rfl, one_one (h1.now hw).one⟩, ⟨[va2], rfl, one_one (h2.now hw).one⟩, ⟨[va3], rfl, one_one (h3.now hw).one⟩]) (vs := [va1, va2, va3]) rfl Try.underlying100 el24 (Nat.le_of_ble_eq_true rfl) (Nat.le_of_ble_eq_true rfl) hw hf rfl rfl (cl2 (h1.now hw).cells1 (cl2 (h2.now hw).cells1 (cl2 (h3.now hw).cells1 rfl))) ⟨(h1.now hw).K 36, ⟨(h2.now hw).K 36, ⟨(h3.now hw).K 36, trivial⟩⟩⟩) fun a v7 w hf hΦ => ?_
  obtain ⟨ρ, hw, hE, o7⟩ := hΦ
  replace o1 := o1.ext hE
  replace o3 := o3.ext hE
  replace o2 := o2.ext hE
  replace o6 := o6.ext hE
  refine s_ hf (r_len Try.underlying100 o7 hf rfl) fun a hf => ?_
  refine s_ hf (r_move hf rfl) fun a hf => ?_
  refine c_nt ?_
  obtain ⟨ol4, ho4, hG4⟩ := of_bind hF
  clear hF
  refine c_block (c_loop (id := 0) (fun s => impl_ChangeScheme_l4 a0 a1 a2 a3 s.1 s.2) (fun (s : Bool × Int) a w => match s with | (s5, s6) => ∃ ρ, Wd w0 ρ w ∧ Fr 66 a [(1, va1), (2, va2), (3, va3), (4, .pointer (some ((⟨g1, 0, none⟩ : Addr).add 0))), (8, .pointer (some ((⟨g2, 0, none⟩ : Addr).add 0))), (10, v6), (11, .bool s5), (28, v7), (29, vI (([a1, a2, a3] : List (List (List Int))).length : Int)), (30, vI s6)] ∧ Va ρ w 1 g1 39 ([vI a0.p, vI a0.n, vI a0.m, vI a0.k, va0]) ∧ Va ρ w 2 g2 39 ([vI 0, vI 0, vI 0, vI 0, (.slice none 0 0)]) ∧ O82 ρ w w0 3 (.slice none 0 0) ([] : List Prod) ∧ O2 ρ w w0 6 v6 ([a0.n, a0.m, a0.k]) ∧ Ro (Kd.slice 36 (Kd.slice 2 (kf fI64))) w v7 ([a1, a2, a3] : List (List (List Int)))) (fun (s : Bool × Int) a w => match s with | (s5, s6) => ∃ ρ, Wd w0 ρ w ∧ Fr 66 a [(1, va1), (2, va2), (3, va3), (4, .pointer (some ((⟨g1, 0, none⟩ : Addr).add 0))), (8, .pointer (some ((⟨g2, 0, none⟩ : Addr).add 0))), (11, .bool s5)] ∧ Va ρ w 1 g1 39 ([vI a0.p, vI a0.n, vI a0.m, vI a0.k, va0]) ∧ Va ρ w 2 g2 39 ([vI 0, vI 0, vI 0, vI 0, (.slice none 0 0)]) ∧ O82 ρ w w0 3 (.slice none 0 0) ([] : List Prod)) ho4 ⟨_, hw, hf.sub ⟨rfl, rfl, rfl, rfl, rfl, rfl, rfl, rfl, rfl, rfl, trivial⟩, o1, o2, o3, o6, o7⟩ ?_ ?_)
  · rintro ⟨s5, s6⟩ lr a w ⟨ρ, hw, hf, o1, o2, o3, o6, o7⟩ hF
    replace hF : impl_ChangeScheme_l4 a0 a1 a2 a3 s5 s6 = some lr := hF
    unfold impl_ChangeScheme_l4 at hF
    refine c_seq <| c_region ?_
    refine s_ hf (r_lss hf rfl rfl) fun a hf => ?_
    refine c_nt <| c_seq ?_
    rcases of_ite hF with ⟨hb7, hF⟩ | ⟨hb7, hF⟩
    rotate_left
    · refine c_iff hf rfl hb7 <| c_exit <| x_then ?_
      obtain rfl := Option.some.inj hF
      exact Rnd.stops ⟨_, hw, hf.sub ⟨rfl, rfl, rfl, rfl, rfl, rfl, trivial⟩, o1, o2, o3⟩
    refine c_ift hf rfl hb7 <| c_skip <| n_then <| c_seq <| c_block <| c_seq <| c_region ?_
    refine s_ hf (r_move hf rfl) fun a hf => ?_
    obtain ⟨hc8, hF⟩ := of_guard hF
    obtain ⟨ad9, c9, u9, he9, hl9, ho9⟩ := Ro.el_row o7 hc8.1 hc8.2
    refine s_ hf (r_idx Try.underlying100 sz24 hf rfl ⟨_, he9⟩ rfl hc8.1 hc8.2) fun a hf => ?_
    refine s_ hf (r_load_cell ty24 hf rfl hl9) fun a hf => ?_
    refine s_ hf (r_assign hf rfl) fun a hf => ?_
    refine s_ hf (r_assign hf rfl) fun a hf => ?_
    refine c_nt <| c_seq <| c_seq ?_
    obtain ⟨s11, hT10, hG10⟩ := of_bind hF
    clear hF
    refine c_meet (fun (s11 : Bool) a w => ∃ ρ, Wd w0 ρ w ∧ Fr 66 a [(1, va1), (2, va2), (3, va3), (4, .pointer (some ((⟨g1, 0, none⟩ : Addr).add 0))), (8, .pointer (some ((⟨g2, 0, none⟩ : Addr).add 0))), (10, v6), (11, .bool s5), (13, u9), (28, v7), (29, vI (([a1, a2, a3] : List (List (List Int))).length : Int)), (30, vI s6), (48, .bool s11)] ∧ Va ρ w 1 g1 39 ([vI a0.p, vI a0.n, vI a0.m, vI a0.k, va0]) ∧ Va ρ w 2 g2 39 ([vI 0, vI 0, vI 0, vI 0, (.slice none 0 0)]) ∧ O82 ρ w w0 3 (.slice none 0 0) ([] : List Prod) ∧ O2 ρ w w0 6 v6 ([a0.n, a0.m, a0.k]) ∧ Ro (Kd.slice 36 (Kd.slice 2 (kf fI64))) w v7 ([a1, a2, a3] : List (List (List Int))) ∧ Ro (Kd.slice 2 (kf fI64)) w u9 (gl [] ([a1, a2, a3] : List (List (List Int))) s6)) s11 ?_ ?_
    · have hF := hT10
      refine c_region ?_
      refine s_ hf (r_fa fa39_0 hf rfl) fun a hf => ?_
      refine s_ hf (r_load_cell ty2 hf rfl (o1.cl.at_ 0 _ rfl)) fun a hf => ?_
      refine s_ hf (r_move hf rfl) fun a hf => ?_
      obtain ⟨x12, hx13, hF⟩ := of_bind hF
      refine st_fn 10 hw hf rfl rfl (by decide) (r_fn en53 hf rfl) (impl_isSquare_ok ho9 hx13) fun a v w ρ hf hw hE hN hΦ => ?_
      obtain rfl := hΦ
      replace o1 := o1.ext hE
      replace o2 := o2.ext hE
      replace o3 := o3.ext hE
      replace o6 := o6.ext hE
      replace o7 := o7.ext hE
      replace ho9 := ho9.ext hE
      replace hl9 := hl9.ext hE
      refine s_ hf (r_not hf rfl) fun a hf => ?_
      refine s_ hf (r_move hf rfl) fun a hf => ?_
      rcases of_ite hF with ⟨hb14, hF⟩ | ⟨hb14, hF⟩
      · refine st_no (b := true) hf rfl rfl rfl hb14 rfl (by decide) fun a hf => ?_
        refine st_no (b := true) hf rfl rfl rfl hb14 rfl (by decide) fun a hf => ?_
        refine st_no (b := true) hf rfl rfl rfl hb14 rfl (by decide) fun a hf => ?_
        refine st_no (b := true) hf rfl rfl rfl hb14 rfl (by decide) fun a hf => ?_
        refine st_no (b := true) hf rfl rfl rfl hb14 rfl (by decide) fun a hf => ?_
        refine st_no (b := true) hf rfl rfl rfl hb14 rfl (by decide) fun a hf => ?_
        refine st_no (b := true) hf rfl rfl rfl hb14 rfl (by decide) fun a hf => ?_
        refine s_ hf (r_pick (b := true) hf rfl hb14 rfl) fun a hf => ?_
        refine c_nil ⟨rfl, ?_⟩
        obtain rfl := Option.some.inj hF
        exact ⟨_, hw, hf.sub ⟨rfl, rfl, rfl, rfl, rfl, rfl, rfl, rfl, rfl, rfl, rfl, rfl, trivial⟩, o1, o2, o3, o6, o7, ho9⟩
      refine st_g (b := false) hf rfl rfl rfl hb14 rfl (by decide) (r_move hf rfl) fun a hf => ?_
      refine st_g (b := false) hf rfl rfl rfl hb14 rfl (by decide) (r_len Try.underlying24 ho9 hf rfl) fun a hf => ?_
      refine st_g (b := false) hf rfl rfl rfl hb14 rfl (by decide) (r_move hf rfl) fun a hf => ?_
      refine st_g (b := false) hf rfl rfl rfl hb14 rfl (by decide) (r_move hf rfl) fun a hf => ?_
      obtain ⟨hc15, hF⟩ := of_guard hF
      obtain ⟨ad16, hl16⟩ := Ow.ce (d := fI64) o6 0 hc15.1 hc15.2
      refine st_g (b := false) hf rfl rfl rfl hb14 rfl (by decide) (r_idx Try.underlying36 sz2 hf rfl hl16.at_ rfl hc15.1 hc15.2) fun a hf => ?_
      refine st_g (b := false) hf rfl rfl rfl hb14 rfl (by decide) (r_load_cell ty2 hf rfl hl16.co.cl) fun a hf => ?_
      refine st_g (b := false) hf rfl rfl rfl hb14 rfl (by decide) (r_neq hf rfl rfl) fun a hf => ?_
      refine s_ hf (r_pick (b := false) hf rfl hb14 rfl) fun a hf => ?_
      refine c_nil ⟨rfl, ?_⟩
      obtain rfl := Option.some.inj hF
      exact ⟨_, hw, hf.sub ⟨rfl, rfl, rfl, rfl, rfl, rfl, rfl, rfl, rfl, rfl, rfl, rfl, trivial⟩, o1, o2, o3, o6, o7, ho9⟩
    rintro a w ⟨ρ, hw, hf, o1, o2, o3, o6, o7, ho9⟩
    have hF := hG10
    refine n_then ?_
    rcases of_ite hF with ⟨hb17, hF⟩ | ⟨hb17, hF⟩
    · refine c_ift hf rfl hb17 <| c_seq <| c_region ?_
      have o12 : Ow (kf cProd) 82 ρ w w0.heap.size 12 (.slice none 0 0) [] := Ow.nil _ _ _ _ _ _
      refine s_ hf (r_build_struct (pl := [(0, 1), (1, 1), (2, 1), (3, 1), (4, 1)]) (vs := []) (res := ([vI 0, vI 0, vI 0, vI 0, (.slice none 0 0)]).toArray) Try.underlying39 (by kernel_rfl) ze39 hf rfl rfl rfl) fun a hf => ?_
      refine sk_ hf (r_store_w (cs' := [vI 0, vI 0, vI 0, vI 0, (.slice none 0 0)]) hw o2 (by decide) ty39 rfl rfl (one_sch o12.ro.one) hf rfl rfl rfl) fun a w hf hΦ => ?_
      obtain ⟨hw, hA, o2⟩ := hΦ
      replace o1 := o1.adv hA (by decide)
      replace o3 := o3.adv hA (by decide)
      replace o6 := o6.adv hA (by decide)
      replace o12 := o12.adv hA (by decide)
      refine s_ hf (r_assign hf rfl) fun a hf => ?_
      refine c_nt <| c_retc ?_
      obtain rfl := Option.some.inj hF
      refine r_then <| r_block <| r_then ?_
      refine Rnd.rets fun ho => ?_
      subst ho
      have hF := hG4
      dsimp only at hF
      obtain rfl := Option.some.inj hF
      refine r_block <| r_then <| c_ret hf (res_ct Try.results46 ty39 hf rfl o2.cl rfl rfl) ?_
      exact ⟨_, rfl, hw.below, ⟨_, rfl, o12.out⟩⟩
    refine c_iff hf rfl hb17 <| c_skip <| n_then ?_
    obtain ⟨s19, hT18, hG18⟩ := of_bind hF
    clear hF
    refine c_meet (fun (s19 : Bool) a w => ∃ ρ, Wd w0 ρ w ∧ Fr 66 a [(1, va1), (2, va2), (3, va3), (4, .pointer (some ((⟨g1, 0, none⟩ : Addr).add 0))), (8, .pointer (some ((⟨g2, 0, none⟩ : Addr).add 0))), (10, v6), (11, .bool s19), (28, v7), (29, vI (([a1, a2, a3] : List (List (List Int))).length : Int)), (30, vI s6)] ∧ Va ρ w 1 g1 39 ([vI a0.p, vI a0.n, vI a0.m, vI a0.k, va0]) ∧ Va ρ w 2 g2 39 ([vI 0, vI 0, vI 0, vI 0, (.slice none 0 0)]) ∧ O82 ρ w w0 3 (.slice none 0 0) ([] : List Prod) ∧ O2 ρ w w0 6 v6 ([a0.n, a0.m, a0.k]) ∧ Ro (Kd.slice 36 (Kd.slice 2 (kf fI64))) w v7 ([a1, a2, a3] : List (List (List Int)))) s19 ?_ ?_
    · have hF := hT18
      refine c_region ?_
      refine s_ hf (r_move hf rfl) fun a hf => ?_
      refine s_ hf (r_move hf rfl) fun a hf => ?_
      rcases of_ite hF with ⟨hb20, hF⟩ | ⟨hb20, hF⟩
      rotate_left
      · refine st_no (b := false) hf rfl rfl rfl hb20 rfl (by decide) fun a hf => ?_
        refine st_no (b := false) hf rfl rfl rfl hb20 rfl (by decide) fun a hf => ?_
        refine st_no (b := false) hf rfl rfl rfl hb20 rfl (by decide) fun a hf => ?_
        refine st_no (b := false) hf rfl rfl rfl hb20 rfl (by decide) fun a hf => ?_
        refine s_ hf (r_pick (b := false) hf rfl hb20 rfl) fun a hf => ?_
        refine s_ hf (r_assign hf rfl) fun a hf => ?_
        refine c_nil ⟨rfl, ?_⟩
        obtain rfl := Option.some.inj hF
        exact ⟨_, hw, hf.sub ⟨rfl, rfl, rfl, rfl, rfl, rfl, rfl, rfl, rfl, rfl, trivial⟩, o1, o2, o3, o6, o7⟩
      refine st_g (b := true) hf rfl rfl rfl hb20 rfl (by decide) (r_fa fa39_0 hf rfl) fun a hf => ?_
      refine st_g (b := true) hf rfl rfl rfl hb20 rfl (by decide) (r_load_cell ty2 hf rfl (o1.cl.at_ 0 _ rfl)) fun a hf => ?_
      refine st_g (b := true) hf rfl rfl rfl hb20 rfl (by decide) (r_move hf rfl) fun a hf => ?_
      obtain ⟨x21, hx22, hF⟩ := of_bind hF
      refine st_gfn (b := true) 13 hw hf rfl rfl rfl hb20 rfl (by decide) (r_fn en54 hf rfl) (impl_isInvertible_ok ho9 hx22) fun a v w ρ hf hw hE hN hΦ => ?_
      obtain rfl := hΦ
      replace o1 := o1.ext hE
      replace o2 := o2.ext hE
      replace o3 := o3.ext hE
      replace o6 := o6.ext hE
      replace o7 := o7.ext hE
      replace ho9 := ho9.ext hE
      refine s_ hf (r_pick (b := true) hf rfl hb20 rfl) fun a hf => ?_
      refine s_ hf (r_assign hf rfl) fun a hf => ?_
      refine c_nil ⟨rfl, ?_⟩
      obtain rfl := Option.some.inj hF
      exact ⟨_, hw, hf.sub ⟨rfl, rfl, rfl, rfl, rfl, rfl, rfl, rfl, rfl, rfl, trivial⟩, o1, o2, o3, o6, o7⟩
    rintro a w ⟨ρ, hw, hf, o1, o2, o3, o6, o7⟩
    have hF := hG18
    refine n_block <| n_then <| c_region ?_
    refine s_ hf (r_add hf rfl rfl) fun a hf => ?_
    refine s_ hf (r_move hf rfl) fun a hf => ?_
    refine c_nil ?_
    obtain rfl := Option.some.inj hF
    exact Rnd.goes ⟨_, hw, hf.sub ⟨rfl, rfl, rfl, rfl, rfl, rfl, rfl, rfl, rfl, rfl, trivial⟩, o1, o2, o3, o6, o7⟩
  rintro ⟨s5, s6⟩ a w hs ⟨ρ, hw, hf, o1, o2, o3⟩
  subst hs
  have hF := hG4
  dsimp only at hF
  refine x_block <| n_then <| c_seq <| c_seq <| c_region ?_
  refine s_ hf (r_move hf rfl) fun a hf => ?_
  refine s_ hf (r_not hf rfl) fun a hf => ?_
  refine c_nt ?_
  rcases of_ite hF with ⟨hb23, hF⟩ | ⟨hb23, hF⟩
  · refine c_ift hf rfl hb23 <| c_seq <| c_region ?_
    have o14 : Ow (kf cProd) 82 ρ w w0.heap.size 14 (.slice none 0 0) [] := Ow.nil _ _ _ _ _ _
    refine s_ hf (r_build_struct (pl := [(0, 1), (1, 1), (2, 1), (3, 1), (4, 1)]) (vs := []) (res := ([vI 0, vI 0, vI 0, vI 0, (.slice none 0 0)]).toArray) Try.underlying39 (by kernel_rfl) ze39 hf rfl rfl rfl) fun a hf => ?_
    refine sk_ hf (r_store_w (cs' := [vI 0, vI 0, vI 0, vI 0, (.slice none 0 0)]) hw o2 (by decide) ty39 rfl rfl (one_sch o14.ro.one) hf rfl rfl rfl) fun a w hf hΦ => ?_
    obtain ⟨hw, hA, o2⟩ := hΦ
    replace o1 := o1.adv hA (by decide)
    replace o3 := o3.adv hA (by decide)
    replace o14 := o14.adv hA (by decide)
    refine s_ hf (r_assign hf rfl) fun a hf => ?_
    refine c_nt <| c_retc ?_
    obtain rfl := Option.some.inj hF
    refine r_then <| c_ret hf (res_ct Try.results46 ty39 hf rfl o2.cl rfl rfl) ?_
    exact ⟨_, rfl, hw.below, ⟨_, rfl, o14.out⟩⟩
  refine c_iff hf rfl hb23 <| c_skip <| n_then <| c_seq <| c_region ?_
  refine s_ hf (r_load_agg ty39 hf rfl o1.cl rfl) fun a hf => ?_
  refine s_ hf (r_move hf rfl) fun a hf => ?_
  refine s_ hf (r_move hf rfl) fun a hf => ?_
  refine s_ hf (r_move hf rfl) fun a hf => ?_
  obtain ⟨x24, hx25, hF⟩ := of_bind hF
  refine st_fn 15 hw hf rfl rfl (by decide) (r_fn en96 hf rfl) (impl_changed_ok (a0 := a0) (h0.now hw) (h1.now hw) (h2.now hw) (h3.now hw) hx25) fun a v w ρ hf hw hE hN hΦ => ?_
  obtain ⟨u26, rfl, hr27⟩ := hΦ
  replace o1 := o1.ext hE
  replace o2 := o2.ext hE
  replace o3 := o3.ext hE
  have o15 := hN hr27
  refine sk_ hf (r_store_w (cs' := [vI x24.p, vI x24.n, vI x24.m, vI x24.k, u26]) hw o2 (by decide) ty39 rfl rfl (one_sch o15.ro.one) hf rfl rfl rfl) fun a w hf hΦ => ?_
  obtain ⟨hw, hA, o2⟩ := hΦ
  replace o1 := o1.adv hA (by decide)
  replace o3 := o3.adv hA (by decide)
  replace o15 := o15.adv hA (by decide)
  refine s_ hf (r_assign hf rfl) fun a hf => ?_
  refine c_nt <| c_retc ?_
  obtain rfl := Option.some.inj hF
  refine c_ret hf (res_ct Try.results46 ty39 hf rfl o2.cl rfl rfl) ?_
  exact ⟨_, rfl, hw.below, ⟨_, rfl, o15.out⟩⟩
/-! f6 -/
noncomputable def laws_FnExactChangeScheme (a0 : Sch) (a1 : List (List Int)) (a2 : List (List Int)) (a3 : List (List Int)) : Option Bool :=
  (laws_szScheme a0 1048576).bind fun x1 => if (decide (x1 < 0)) = true then (some (true)) else ((laws_szInt64SS a1 x1).bind fun x4 => if (decide (x4 < 0)) = true then (some (true)) else ((laws_szInt64SS a2 x4).bind fun x7 => if (decide (x7 < 0)) = true then (some (true)) else ((laws_szInt64SS a3 x7).bind fun x10 => if (decide (x10 < 0)) = true then (some (true)) else ((laws_toScheme a0).bind fun x13 => (laws_toInt64SS a1).bind fun x17 => (laws_toInt64SS a2).bind fun x20 => (laws_toInt64SS a3).bind fun x23 => (spec_ChangeScheme x13 (gi (List.range x17.length) x17) (gi (List.range x20.length) x20) (gi (List.range x23.length) x23)).bind fun x26 => (laws_toScheme a0).bind fun x30 => (laws_toInt64SS a1).bind fun x34 => (laws_toInt64SS a2).bind fun x37 => (laws_toInt64SS a3).bind fun x40 => (impl_ChangeScheme x30 (gi (List.range x34.length) x34) (gi (List.range x37.length) x37) (gi (List.range x40.length) x40)).bind fun x43 => ((laws_eqScheme x43.1 x26.1).bind fun x49 => if (!x49) = true then (some true) else (some (decide (x43.2 ≠ x26.2)))).bind fun (s48 : Bool) => if s48 = true then (some (false)) else ((laws_toScheme a0).bind fun x53 => (laws_eqScheme x30 x53).bind fun x57 => if (!x57) = true then (some (false)) else ((laws_toInt64SS a1).bind fun x60 => (laws_eqInt64SS (gi (List.range x34.length) x34) (gi (List.range x60.length) x60)).bind fun x63 => if (!x63) = true then (some (false)) else ((laws_toInt64SS a2).bind fun x66 => (laws_eqInt64SS (gi (List.range x37.length) x37) (gi (List.range x66.length) x66)).bind fun x69 => if (!x69) = true then (some (false)) else ((laws_toInt64SS a3).bind fun x72 => (laws_eqInt64SS (gi (List.range x40.length) x40) (gi (List.range x72.length) x72)).bind fun x75 => if (!x75) = true then (some (false)) else ((laws_markScheme x30 1).bind fun x78 => (laws_markInt64SS x34 x78.1).bind fun x80 => (laws_markInt64SS x37 x80.1).bind fun x82 => (laws_markInt64SS x40 x82.1).bind fun x84 => (if (decide (x84.1 < 0)) = true then (some true) else ((laws_eqScheme x43.1 x26.1).bind fun x89 => if (!x89) = true then (some true) else (some (decide (x43.2 ≠ x26.2))))).bind fun (s87 : Bool) => if s87 = true then (some (false)) else ((laws_markScheme x43.1 1).bind fun x93 => (laws_heldScheme (⟨x43.1.p, x43.1.n, x43.1.m, x43.1.k, x93.2⟩ : Sch) 1).bind fun x95 => if (decide (x95 < 0)) = true then (some (false)) else (if (decide (x95 ≠ x93.1)) = true then (some (false)) else ((laws_toScheme a0).bind fun x99 => (laws_toInt64SS a1).bind fun x103 => (laws_toInt64SS a2).bind fun x106 => (laws_toInt64SS a3).bind fun x109 => (impl_ChangeScheme x99 (gi (List.range x103.length) x103) (gi (List.range x106.length) x106) (gi (List.range x109.length) x109)).bind fun x112 => ((laws_eqScheme x112.1 x26.1).bind fun x118 => if (!x118) = true then (some true) else (some (decide (x112.2 ≠ x26.2)))).bind fun (s117 : Bool) => if s117 = true then (some (false)) else ((laws_heldScheme (⟨x43.1.p, x43.1.n, x43.1.m, x43.1.k, x93.2⟩ : Sch) 1).bind fun x122 => if (decide (x122 < 0)) = true then (some (false)) else (if (decide (x122 ≠ x93.1)) = true then (some (false)) else (some (true))))))))))))))))
theorem laws_FnExactChangeScheme_ok {w0 : World} {a0 : Sch} {a1 : List (List Int)} {a2 : List (List Int)} {a3 : List (List Int)} {va0 : Value} {va1 : Value} {va2 : Value} {va3 : Value} (h0 : Ro (kf cProd) w0 va0 a0.ps) (h1 : Ro (Kd.slice 2 (kf fI64)) w0 va1 a1) (h2 : Ro (Kd.slice 2 (kf fI64)) w0 va2 a2) (h3 : Ro (Kd.slice 2 (kf fI64)) w0 va3 a3) {r : Bool} (hF : laws_FnExactChangeScheme a0 a1 a2 a3 = some r) :
    Calls Try.prog 6 [.agg ([vI a0.p, vI a0.n, vI a0.m, vI a0.k, va0]).toArray, va1, va2, va3].toArray w0 fun e w => ∃ v, e = .returned v ∧ Below w0.heap.size w0 w ∧ .bool r = v := by
  refine calls_of (k := 165) Try.func6 rfl rfl (Nat.le_of_ble_eq_true rfl) fun a hf => ?_
  replace hf : Fr 165 a [(0, .agg ([vI a0.p, vI a0.n, vI a0.m, vI a0.k, va0]).toArray), (1, va1), (2, va2), (3, va3)] := hf
  refine c_start fun w ρ hw => ?_
  unfold laws_FnExactChangeScheme at hF
  refine c_seq <| c_region ?_
  refine sx_ hf (r_box (cs := [vI a0.p, vI a0.n, vI a0.m, vI a0.k, va0]) 1 hw hf rfl rfl) fun a v w hf hΦ => ?_
  obtain ⟨g1, ρ, rfl, hw, hE, o1⟩ := hΦ
  refine s_ hf (r_assign hf rfl) fun a hf => ?_
  refine c_nt <| c_seq <| c_region ?_
  refine s_ hf (r_assign hf rfl) fun a hf => ?_
  refine c_nt <| c_seq <| c_region ?_
  refine s_ hf (r_load_agg ty48 hf rfl o1.cl rfl) fun a hf => ?_
  refine s_ hf (r_move hf rfl) fun a hf => ?_
  obtain ⟨x1, hx2, hF⟩ := of_bind hF
  refine st_fn 2 hw hf rfl rfl (by decide) (r_fn en34 hf rfl) (laws_szScheme_ok (a0 := a0) (h0.now hw) hx2) fun a v w ρ hf hw hE hN hΦ => ?_
  obtain rfl := hΦ
  replace o1 := o1.ext hE
  refine s_ hf (r_assign hf rfl) fun a hf => ?_
  refine c_nt <| c_seq <| c_seq <| c_region ?_
  refine s_ hf (r_move hf rfl) fun a hf => ?_
  refine s_ hf (r_lss hf rfl rfl) fun a hf => ?_
  refine c_nt ?_
  rcases of_ite hF with ⟨hb3, hF⟩ | ⟨hb3, hF⟩
  · refine c_ift hf rfl hb3 <| c_seq <| c_region ?_
    refine s_ hf (r_assign hf rfl) fun a hf => ?_
    refine c_nt <| c_retc ?_
    obtain rfl := Option.some.inj hF
    refine r_then <| c_ret hf (res_tmp Try.results6 hf rfl) ?_
    exact ⟨_, rfl, hw.below, rfl⟩
  refine c_iff hf rfl hb3 <| c_skip <| n_then <| c_seq <| c_region ?_
  refine s_ hf (r_move hf rfl) fun a hf => ?_
  refine s_ hf (r_move hf rfl) fun a hf => ?_
  obtain ⟨x4, hx5, hF⟩ := of_bind hF
  refine st_fn 3 hw hf rfl rfl (by decide) (r_fn en43 hf rfl) (laws_szInt64SS_ok (h1.now hw) hx5) fun a v w ρ hf hw hE hN hΦ => ?_
  obtain rfl := hΦ
  replace o1 := o1.ext hE
  refine s_ hf (r_assign hf rfl) fun a hf => ?_
  refine c_nt <| c_seq <| c_seq <| c_region ?_
  refine s_ hf (r_move hf rfl) fun a hf => ?_
  refine s_ hf (r_lss hf rfl rfl) fun a hf => ?_
  refine c_nt ?_
  rcases of_ite hF with ⟨hb6, hF⟩ | ⟨hb6, hF⟩
  · refine c_ift hf rfl hb6 <| c_seq <| c_region ?_
    refine s_ hf (r_assign hf rfl) fun a hf => ?_
    refine c_nt <| c_retc ?_
    obtain rfl := Option.some.inj hF
    refine r_then <| c_ret hf (res_tmp Try.results6 hf rfl) ?_
    exact ⟨_, rfl, hw.below, rfl⟩
  refine c_iff hf rfl hb6 <| c_skip <| n_then <| c_seq <| c_region ?_
  refine s_ hf (r_move hf rfl) fun a hf => ?_
  refine s_ hf (r_move hf rfl) fun a hf => ?_
  obtain ⟨x7, hx8, hF⟩ := of_bind hF
  refine st_fn 4 hw hf rfl rfl (by decide) (r_fn en43 hf rfl) (laws_szInt64SS_ok (h2.now hw) hx8) fun a v w ρ hf hw hE hN hΦ => ?_
  obtain rfl := hΦ
  replace o1 := o1.ext hE
  refine s_ hf (r_assign hf rfl) fun a hf => ?_
  refine c_nt <| c_seq <| c_seq <| c_region ?_
  refine s_ hf (r_move hf rfl) fun a hf => ?_
  refine s_ hf (r_lss hf rfl rfl) fun a hf => ?_
  refine c_nt ?_
  rcases of_ite hF with ⟨hb9, hF⟩ | ⟨hb9, hF⟩
  · refine c_ift hf rfl hb9 <| c_seq <| c_region ?_
    refine s_ hf (r_assign hf rfl) fun a hf => ?_
    refine c_nt <| c_retc ?_
    obtain rfl := Option.some.inj hF
    refine r_then <| c_ret hf (res_tmp Try.results6 hf rfl) ?_
    exact ⟨_, rfl, hw.below, rfl⟩
  refine c_iff hf rfl hb9 <| c_skip <| n_then <| c_seq <| c_region ?_
  refine s_ hf (r_move hf rfl) fun a hf => ?_
  refine s_ hf (r_move hf rfl) fun a hf => ?_
  obtain ⟨x10, hx11, hF⟩ := of_bind hF
  refine st_fn 5 hw hf rfl rfl (by decide) (r_fn en43 hf rfl) (laws_szInt64SS_ok (h3.now hw) hx11) fun a v w ρ hf hw hE hN hΦ => ?_
  obtain rfl := hΦ
  replace o1 := o1.ext hE
  refine s_ hf (r_assign hf rfl) fun a hf => ?_
  refine c_nt <| c_seq <| c_seq <| c_region ?_
  refine s_ hf (r_move hf rfl) fun a hf => ?_
  refine s_ hf (r_lss hf rfl rfl) fun a hf => ?_
  refine c_nt ?_
  rcases of_ite hF with ⟨hb12, hF⟩ | ⟨hb12, hF⟩
  · refine c_ift hf rfl hb12 <| c_seq <| c_region ?_
    refine s_ hf (r_assign hf rfl) fun a hf => ?_
    refine c_nt <| c_retc ?_
    obtain rfl := Option.some.inj hF
    refine r_then <| c_ret hf (res_tmp Try.results6 hf rfl) ?_
    exact ⟨_, rfl, hw.below, rfl⟩
  refine c_iff hf rfl hb12 <| c_skip <| n_then <| c_seq <| c_region ?_
  refine s_ hf (r_load_agg ty48 hf rfl o1.cl rfl) fun a hf => ?_
  obtain ⟨x13, hx14, hF⟩ := of_bind hF
  refine st_fn 6 hw hf rfl rfl (by decide) (r_fn en36 hf rfl) (laws_toScheme_ok (a0 := a0) (h0.now hw) hx14) fun a v w ρ hf hw hE hN hΦ => ?_
  obtain ⟨u15, rfl, hr16⟩ := hΦ
  replace o1 := o1.ext hE
  have o6 := hN hr16
  refine s_ hf (r_move hf rfl) fun a hf => ?_
  obtain ⟨x17, hx18, hF⟩ := of_bind hF
  refine st_fnr hf (r_fn en45 hf rfl) (laws_toInt64SS_ok (h1.now hw) hx18) fun a v w hf hb hΦ => ?_
  obtain ⟨u19, rfl, hg⟩ := hΦ
  obtain ⟨f7, ρ, hw, hE, o7⟩ := hg.own hw hb 7 (by decide)
  replace o1 := o1.ext hE
  replace o6 := o6.ext hE
  refine s_ hf (r_move hf rfl) fun a hf => ?_
  obtain ⟨x20, hx21, hF⟩ := of_bind hF
  refine st_fnr hf (r_fn en45 hf rfl) (laws_toInt64SS_ok (h2.now hw) hx21) fun a v w hf hb hΦ => ?_
  obtain ⟨u22, rfl, hg⟩ := hΦ
  obtain ⟨f8, ρ, hw, hE, o8⟩ := hg.own hw hb 8 (by decide)
  replace o1 := o1.ext hE
  replace o6 := o6.ext hE
  replace o7 := o7.ext hE
  refine s_ hf (r_move hf rfl) fun a hf => ?_
  obtain ⟨x23, hx24, hF⟩ := of_bind hF
  refine st_fnr hf (r_fn en45 hf rfl) (laws_toInt64SS_ok (h3.now hw) hx24) fun a v w hf hb hΦ => ?_
  obtain ⟨u25, rfl, hg⟩ := hΦ
  obtain ⟨f9, ρ, hw, hE, o9⟩ := hg.own hw hb 9 (by decide)
  replace o1 := o1.ext hE
  replace o6 := o6.ext hE
  replace o7 := o7.ext hE
  replace o8 := o8.ext hE
  obtain ⟨x26, hx27, hF⟩ := of_bind hF
  refine st_fn 10 hw hf rfl rfl (by decide) (r_fn en44 hf rfl) (spec_ChangeScheme_ok (a0 := x13) o6.ro o7.ro o8.ro o9.ro hx27) fun a v w ρ hf hw hE hN hΦ => ?_
  obtain ⟨u28, rfl, hr29⟩ := hΦ
  replace o1 := o1.ext hE
  replace o6 := o6.ext hE
  replace o7 := o7.ext hE
  replace o8 := o8.ext hE
  replace o9 := o9.ext hE
  have o10 := hN hr29
  refine s_ hf (r_move hf rfl) fun a hf => ?_
  refine s_ hf (r_extract hf rfl rfl) fun a hf => ?_
  refine s_ hf (r_extract hf rfl rfl) fun a hf => ?_
  have o12 : Ow (kf cProd) 82 ρ w w0.heap.size 12 (.slice none 0 0) [] := Ow.nil _ _ _ _ _ _
  refine sx_ hf (r_alloc (cs := [vI 0, vI 0, vI 0, vI 0, (.slice none 0 0)]) 11 ze39 rfl hw) fun a v w hf hΦ => ?_
  obtain ⟨g11, ρ, rfl, hw, hE, o11⟩ := hΦ
  replace o1 := o1.ext hE
  replace o6 := o6.ext hE
  replace o7 := o7.ext hE
  replace o8 := o8.ext hE
  replace o9 := o9.ext hE
  replace o10 := o10.ext hE
  replace o12 := o12.ext hE
  refine sk_ hf (r_store_w (cs' := [vI x26.1.p, vI x26.1.n, vI x26.1.m, vI x26.1.k, u28]) hw o11 (by decide) ty39 rfl rfl (one_sch o10.ro.one) hf rfl rfl rfl) fun a w hf hΦ => ?_
  obtain ⟨hw, hA, o11⟩ := hΦ
  replace o1 := o1.adv hA (by decide)
  replace o6 := o6.adv hA (by decide)
  replace o7 := o7.adv hA (by decide) (fun _ => by unfold lab; omega)
  replace o8 := o8.adv hA (by decide) (fun _ => by unfold lab; omega)
  replace o9 := o9.adv hA (by decide) (fun _ => by unfold lab; omega)
  replace o10 := o10.adv hA (by decide)
  replace o12 := o12.adv hA (by decide)
  refine s_ hf (r_assign hf rfl) fun a hf => ?_
  refine c_nt <| c_seq <| c_region ?_
  refine s_ hf (r_load_agg ty48 hf rfl o1.cl rfl) fun a hf => ?_
  obtain ⟨x30, hx31, hF⟩ := of_bind hF
  refine st_fn 13 hw hf rfl rfl (by decide) (r_fn en36 hf rfl) (laws_toScheme_ok (a0 := a0) (h0.now hw) hx31) fun a v w ρ hf hw hE hN hΦ => ?_
  obtain ⟨u32, rfl, hr33⟩ := hΦ
  replace o1 := o1.ext hE
  replace o6 := o6.ext hE
  replace o7 := o7.ext hE
  replace o8 := o8.ext hE
  replace o9 := o9.ext hE
  replace o10 := o10.ext hE
  replace o12 := o12.ext hE
  replace o11 := o11.ext hE
  have o13 := hN hr33
  have o15 : Ow (kf cProd) 82 ρ w w0.heap.size 15 (.slice none 0 0) [] := Ow.nil _ _ _ _ _ _
  refine sx_ hf (r_alloc (cs := [vI 0, vI 0, vI 0, vI 0, (.slice none 0 0)]) 14 ze39 rfl hw) fun a v w hf hΦ => ?_
  obtain ⟨g14, ρ, rfl, hw, hE, o14⟩ := hΦ
  replace o1 := o1.ext hE
  replace o6 := o6.ext hE
  replace o7 := o7.ext hE
  replace o8 := o8.ext hE
  replace o9 := o9.ext hE
  replace o10 := o10.ext hE
  replace o12 := o12.ext hE
  replace o11 := o11.ext hE
  replace o13 := o13.ext hE
  replace o15 := o15.ext hE
  refine sk_ hf (r_store_w (cs' := [vI x30.p, vI x30.n, vI x30.m, vI x30.k, u32]) hw o14 (by decide) ty39 rfl rfl (one_sch o13.ro.one) hf rfl rfl rfl) fun a w hf hΦ => ?_
  obtain ⟨hw, hA, o14⟩ := hΦ
  replace o1 := o1.adv hA (by decide)
  replace o6 := o6.adv hA (by decide)
  replace o7 := o7.adv hA (by decide) (fun _ => by unfold lab; omega)
  replace o8 := o8.adv hA (by decide) (fun _ => by unfold lab; omega)
  replace o9 := o9.adv hA (by decide) (fun _ => by unfold lab; omega)
  replace o10 := o10.adv hA (by decide)
  replace o12 := o12.adv hA (by decide)
  replace o11 := o11.adv hA (by decide)
  replace o13 := o13.adv hA (by decide)
  replace o15 := o15.adv hA (by decide)
  refine c_nt <| c_seq <| c_region ?_
  refine s_ hf (r_move hf rfl) fun a hf => ?_
  obtain ⟨x34, hx35, hF⟩ := of_bind hF
  refine st_fnr hf (r_fn en45 hf rfl) (laws_toInt64SS_ok (h1.now hw) hx35) fun a v w hf hb hΦ => ?_
  obtain ⟨u36, rfl, hg⟩ := hΦ
  obtain ⟨f16, ρ, hw, hE, o16⟩ := hg.own hw hb 16 (by decide)
  replace o1 := o1.ext hE
  replace o6 := o6.ext hE
  replace o7 := o7.ext hE
  replace o8 := o8.ext hE
  replace o9 := o9.ext hE
  replace o10 := o10.ext hE
  replace o12 := o12.ext hE
  replace o11 := o11.ext hE
  replace o13 := o13.ext hE
  replace o15 := o15.ext hE
  replace o14 := o14.ext hE
  refine s_ hf (r_assign hf rfl) fun a hf => ?_
  refine c_nt <| c_seq <| c_region ?_
  refine s_ hf (r_move hf rfl) fun a hf => ?_
  obtain ⟨x37, hx38, hF⟩ := of_bind hF
  refine st_fnr hf (r_fn en45 hf rfl) (laws_toInt64SS_ok (h2.now hw) hx38) fun a v w hf hb hΦ => ?_
  obtain ⟨u39, rfl, hg⟩ := hΦ
  obtain ⟨f17, ρ, hw, hE, o17⟩ := hg.own hw hb 17 (by decide)
  replace o1 := o1.ext hE
  replace o6 := o6.ext hE
  replace o7 := o7.ext hE
  replace o8 := o8.ext hE
  replace o9 := o9.ext hE
  replace o10 := o10.ext hE
  replace o12 := o12.ext hE
  replace o11 := o11.ext hE
  replace o13 := o13.ext hE
  replace o15 := o15.ext hE
  replace o14 := o14.ext hE
  replace o16 := o16.ext hE
  refine s_ hf (r_assign hf rfl) fun a hf => ?_
  refine c_nt <| c_seq <| c_region ?_
  refine s_ hf (r_move hf rfl) fun a hf => ?_
  obtain ⟨x40, hx41, hF⟩ := of_bind hF
  refine st_fnr hf (r_fn en45 hf rfl) (laws_toInt64SS_ok (h3.now hw) hx41) fun a v w hf hb hΦ => ?_
  obtain ⟨u42, rfl, hg⟩ := hΦ
  obtain ⟨f18, ρ, hw, hE, o18⟩ := hg.own hw hb 18 (by decide)
  replace o1 := o1.ext hE
  replace o6 := o6.ext hE
  replace o7 := o7.ext hE
  replace o8 := o8.ext hE
  replace o9 := o9.ext hE
  replace o10 := o10.ext hE
  replace o12 := o12.ext hE
  replace o11 := o11.ext hE
  replace o13 := o13.ext hE
  replace o15 := o15.ext hE
  replace o14 := o14.ext hE
  replace o16 := o16.ext hE
  replace o17 := o17.ext hE
  refine s_ hf (r_assign hf rfl) fun a hf => ?_
  refine c_nt <| c_seq <| c_region ?_
  refine s_ hf (r_load_agg ty39 hf rfl o14.cl rfl) fun a hf => ?_
  refine s_ hf (r_move hf rfl) fun a hf => ?_
  refine s_ hf (r_move hf rfl) fun a hf => ?_
  refine s_ hf (r_move hf rfl) fun a hf => ?_
  obtain ⟨x43, hx44, hF⟩ := of_bind hF
  refine st_fn 19 hw hf rfl rfl (by decide) (r_fn en46 hf rfl) (impl_ChangeScheme_ok (a0 := x30) o13.ro o16.ro o17.ro o18.ro hx44) fun a v w ρ hf hw hE hN hΦ => ?_
  obtain ⟨u45, rfl, hr46⟩ := hΦ
  replace o1 := o1.ext hE
  replace o6 := o6.ext hE
  replace o7 := o7.ext hE
  replace o8 := o8.ext hE
  replace o9 := o9.ext hE
  replace o10 := o10.ext hE
  replace o12 := o12.ext hE
  replace o11 := o11.ext hE
  replace o13 := o13.ext hE
  replace o15 := o15.ext hE
  replace o14 := o14.ext hE
  replace o16 := o16.ext hE
  replace o17 := o17.ext hE
  replace o18 := o18.ext hE
  have o19 := hN hr46
  refine s_ hf (r_move hf rfl) fun a hf => ?_
  refine s_ hf (r_extract hf rfl rfl) fun a hf => ?_
  refine s_ hf (r_extract hf rfl rfl) fun a hf => ?_
  have o21 : Ow (kf cProd) 82 ρ w w0.heap.size 21 (.slice none 0 0) [] := Ow.nil _ _ _ _ _ _
  refine sx_ hf (r_alloc (cs := [vI 0, vI 0, vI 0, vI 0, (.slice none 0 0)]) 20 ze39 rfl hw) fun a v w hf hΦ => ?_
  obtain ⟨g20, ρ, rfl, hw, hE, o20⟩ := hΦ
  replace o1 := o1.ext hE
  replace o6 := o6.ext hE
  replace o7 := o7.ext hE
  replace o8 := o8.ext hE
  replace o9 := o9.ext hE
  replace o10 := o10.ext hE
  replace o12 := o12.ext hE
  replace o11 := o11.ext hE
  replace o13 := o13.ext hE
  replace o15 := o15.ext hE
  replace o14 := o14.ext hE
  replace o16 := o16.ext hE
  replace o17 := o17.ext hE
  replace o18 := o18.ext hE
  replace o19 := o19.ext hE
  replace o21 := o21.ext hE
  refine sk_ hf (r_store_w (cs' := [vI x43.1.p, vI x43.1.n, vI x43.1.m, vI x43.1.k, u45]) hw o20 (by decide) ty39 rfl rfl (one_sch o19.ro.one) hf rfl rfl rfl) fun a w hf hΦ => ?_
  obtain ⟨hw, hA, o20⟩ := hΦ
  replace o1 := o1.adv hA (by decide)
  replace o6 := o6.adv hA (by decide)
  replace o7 := o7.adv hA (by decide) (fun _ => by unfold lab; omega)
  replace o8 := o8.adv hA (by decide) (fun _ => by unfold lab; omega)
  replace o9 := o9.adv hA (by decide) (fun _ => by unfold lab; omega)
  replace o10 := o10.adv hA (by decide)
  replace o12 := o12.adv hA (by decide)
  replace o11 := o11.adv hA (by decide)
  replace o13 := o13.adv hA (by decide)
  replace o15 := o15.adv hA (by decide)
  replace o14 := o14.adv hA (by decide)
  replace o16 := o16.adv hA (by decide) (fun _ => by unfold lab; omega)
  replace o17 := o17.adv hA (by decide) (fun _ => by unfold lab; omega)
  replace o18 := o18.adv hA (by decide) (fun _ => by unfold lab; omega)
  replace o19 := o19.adv hA (by decide)
  replace o21 := o21.adv hA (by decide)
  refine s_ hf (r_assign hf rfl) fun a hf => ?_
  refine c_nt <| c_seq <| c_seq ?_
  obtain ⟨s48, hT47, hG47⟩ := of_bind hF
  clear hF
  refine c_meet (fun (s48 : Bool) a w => ∃ ρ, Wd w0 ρ w ∧ Fr 165 a [(1, va1), (2, va2), (3, va3), (4, .pointer (some ((⟨g1, 0, none⟩ : Addr).add 0))), (10, .pointer (some ((⟨g11, 0, none⟩ : Addr).add 0))), (11, vI x26.2), (12, .pointer (some ((⟨g14, 0, none⟩ : Addr).add 0))), (13, u36), (14, u39), (15, u42), (16, .pointer (some ((⟨g20, 0, none⟩ : Addr).add 0))), (17, vI x43.2), (79, .bool s48)] ∧ Va ρ w 1 g1 48 ([vI a0.p, vI a0.n, vI a0.m, vI a0.k, va0]) ∧ O82 ρ w w0 10 u28 x26.1.ps ∧ Va ρ w 11 g11 39 ([vI x26.1.p, vI x26.1.n, vI x26.1.m, vI x26.1.k, u28]) ∧ O82 ρ w w0 13 u32 x30.ps ∧ Va ρ w 14 g14 39 ([vI x30.p, vI x30.n, vI x30.m, vI x30.k, u32]) ∧ Gd fI64 2 36 ρ w w0.heap.size 16 u36 f16 (List.range x34.length) x34 ∧ Gd fI64 2 36 ρ w w0.heap.size 17 u39 f17 (List.range x37.length) x37 ∧ Gd fI64 2 36 ρ w w0.heap.size 18 u42 f18 (List.range x40.length) x40 ∧ O82 ρ w w0 19 u45 x43.1.ps ∧ Va ρ w 20 g20 39 ([vI x43.1.p, vI x43.1.n, vI x43.1.m, vI x43.1.k, u45])) s48 ?_ ?_
  · have hF := hT47
    refine c_region ?_
    refine s_ hf (r_load_agg ty39 hf rfl o20.cl rfl) fun a hf => ?_
    refine s_ hf (r_load_agg ty39 hf rfl o11.cl rfl) fun a hf => ?_
    obtain ⟨x49, hx50, hF⟩ := of_bind hF
    refine st_fn 22 hw hf rfl rfl (by decide) (r_fn en39 hf rfl) (laws_eqScheme_ok (a0 := x43.1) (a1 := x26.1) o19.ro o10.ro hx50) fun a v w ρ hf hw hE hN hΦ => ?_
    obtain rfl := hΦ
    replace o1 := o1.ext hE
    replace o6 := o6.ext hE
    replace o7 := o7.ext hE
    replace o8 := o8.ext hE
    replace o9 := o9.ext hE
    replace o10 := o10.ext hE
    replace o12 := o12.ext hE
    replace o11 := o11.ext hE
    replace o13 := o13.ext hE
    replace o15 := o15.ext hE
    replace o14 := o14.ext hE
    replace o16 := o16.ext hE
    replace o17 := o17.ext hE
    replace o18 := o18.ext hE
    replace o19 := o19.ext hE
    replace o21 := o21.ext hE
    replace o20 := o20.ext hE
    refine s_ hf (r_not hf rfl) fun a hf => ?_
    refine s_ hf (r_move hf rfl) fun a hf => ?_
    rcases of_ite hF with ⟨hb51, hF⟩ | ⟨hb51, hF⟩
    · refine st_no (b := true) hf rfl rfl rfl hb51 rfl (by decide) fun a hf => ?_
      refine st_no (b := true) hf rfl rfl rfl hb51 rfl (by decide) fun a hf => ?_
      refine st_no (b := true) hf rfl rfl rfl hb51 rfl (by decide) fun a hf => ?_
      refine s_ hf (r_pick (b := true) hf rfl hb51 rfl) fun a hf => ?_
      refine c_nil ⟨rfl, ?_⟩
      obtain rfl := Option.some.inj hF
      exact ⟨_, hw, hf.sub ⟨rfl, rfl, rfl, rfl, rfl, rfl, rfl, rfl, rfl, rfl, rfl, rfl, rfl, trivial⟩, o1, o10, o11, o13, o14, o16, o17, o18, o19, o20⟩
    refine st_g (b := false) hf rfl rfl rfl hb51 rfl (by decide) (r_move hf rfl) fun a hf => ?_
    refine st_g (b := false) hf rfl rfl rfl hb51 rfl (by decide) (r_move hf rfl) fun a hf => ?_
    refine st_g (b := false) hf rfl rfl rfl hb51 rfl (by decide) (r_neq hf rfl rfl) fun a hf => ?_
    refine s_ hf (r_pick (b := false) hf rfl hb51 rfl) fun a hf => ?_
    refine c_nil ⟨rfl, ?_⟩
    obtain rfl := Option.some.inj hF
    exact ⟨_, hw, hf.sub ⟨rfl, rfl, rfl, rfl, rfl, rfl, rfl, rfl, rfl, rfl, rfl, rfl, rfl, trivial⟩, o1, o10, o11, o13, o14, o16, o17, o18, o19, o20⟩
  rintro a w ⟨ρ, hw, hf, o1, o10, o11, o13, o14, o16, o17, o18, o19, o20⟩
  have hF := hG47
  refine n_then ?_
  rcases of_ite hF with ⟨hb52, hF⟩ | ⟨hb52, hF⟩
  · refine c_ift hf rfl hb52 <| c_seq <| c_region ?_
    refine s_ hf (r_assign hf rfl) fun a hf => ?_
    refine c_nt <| c_retc ?_
    obtain rfl := Option.some.inj hF
    refine r_then <| c_ret hf (res_tmp Try.results6 hf rfl) ?_
    exact ⟨_, rfl, hw.below, rfl⟩
  refine c_iff hf rfl hb52 <| c_skip <| n_then <| c_seq <| c_seq ?_
  obtain ⟨x53, hx54, hF⟩ := of_bind hF
  replace hf : Fr 165 a [(1, va1), (2, va2), (3, va3), (4, .pointer (some ((⟨g1, 0, none⟩ : Addr).add 0))), (10, .pointer (some ((⟨g11, 0, none⟩ : Addr).add 0))), (11, vI x26.2), (12, .pointer (some ((⟨g14, 0, none⟩ : Addr).add 0))), (13, u36), (14, u39), (15, u42), (16, .pointer (some ((⟨g20, 0, none⟩ : Addr).add 0))), (17, vI x43.2)] := hf.sub ⟨rfl, rfl, rfl, rfl, rfl, rfl, rfl, rfl, rfl, rfl, rfl, rfl, trivial⟩
  refine c_drawL (h := 3) mixed (by kernel_rfl) (by kernel_rfl) (fun ρ w => Va ρ w 1 g1 48 ([vI a0.p, vI a0.n, vI a0.m, vI a0.k, va0]) ∧ O82 ρ w w0 10 u28 x26.1.ps ∧ Va ρ w 11 g11 39 ([vI x26.1.p, vI x26.1.n, vI x26.1.m, vI x26.1.k, u28]) ∧ O82 ρ w w0 13 u32 x30.ps ∧ Va ρ w 14 g14 39 ([vI x30.p, vI x30.n, vI x30.m, vI x30.k, u32]) ∧ Gd fI64 2 36 ρ w w0.heap.size 16 u36 f16 (List.range x34.length) x34 ∧ Gd fI64 2 36 ρ w w0.heap.size 17 u39 f17 (List.range x37.length) x37 ∧ Gd fI64 2 36 ρ w w0.heap.size 18 u42 f18 (List.range x40.length) x40 ∧ O82 ρ w w0 19 u45 x43.1.ps ∧ Va ρ w 20 g20 39 ([vI x43.1.p, vI x43.1.n, vI x43.1.m, vI x43.1.k, u45])) ?_ [fun ρ w v => .agg ([vI x30.p, vI x30.n, vI x30.m, vI x30.k, u32]).toArray = v, fun ρ w v => .agg ([vI a0.p, vI a0.n, vI a0.m, vI a0.k, va0]).toArray = v, fun ρ w v => ∃ u55, .agg ([vI x53.p, vI x53.n, vI x53.m, vI x53.k, u55]).toArray = v ∧ O82 ρ w w0 23 u55 x53.ps] ?_ hw ⟨o1, o10, o11, o13, o14, o16, o17, o18, o19, o20⟩ hf ?_ ?_
  · intro ρ w ρ' w' hE hG
    obtain ⟨o1, o10, o11, o13, o14, o16, o17, o18, o19, o20⟩ := hG
    exact ⟨o1.ext hE, o10.ext hE, o11.ext hE, o13.ext hE, o14.ext hE, o16.ext hE, o17.ext hE, o18.ext hE, o19.ext hE, o20.ext hE⟩
  · exact LastsL.cons (fun _ _ _ _ _ _ h => h) <| LastsL.cons (fun _ _ _ _ _ _ h => h) <| LastsL.cons (fun _ _ _ _ _ hE h => by obtain ⟨u55, h, o23⟩ := h; exact ⟨_, h, o23.ext hE⟩) <| LastsL.nil
  · refine StepsB.cons ?_ <| StepsB.cons ?_ <| StepsB.cons ?_ <| StepsB.nil
    · intro ρ w a hw hG hf hd K hK
      obtain ⟨o1, o10, o11, o13, o14, o16, o17, o18, o19, o20⟩ := hG
      exact dv_ hK hw (wn rfl) (r_load_agg ty39 hf rfl o14.cl rfl) rfl
    · intro ρ w a hw hG hf hd K hK
      obtain ⟨o1, o10, o11, o13, o14, o16, o17, o18, o19, o20⟩ := hG
      exact dv_ hK hw (wn rfl) (r_load_agg ty48 hf rfl o1.cl rfl) rfl
    · intro ρ w a hw hG hf hd K hK
      obtain ⟨o1, o10, o11, o13, o14, o16, o17, o18, o19, o20⟩ := hG
      obtain ⟨_, hf, rfl⟩ := got (hd 1 (by kernel_rfl)) hf
      refine dc_ hK hw (wn rfl) (r_fn en36 hf rfl) (laws_toScheme_ok (a0 := a0) (h0.now hw) hx54) fun v w' hΦ => ?_
      obtain ⟨hb, hΦ⟩ := hΦ
      obtain ⟨u55, rfl, hr56⟩ := hΦ
      have hE := Ext.new (ρ := ρ) 23 hb
      have o23 := Fresh.own (ρ := ρ) (B := w0.heap.size) hr56 hw.below.size 23
      exact ⟨_, hw.new 23 hb, hE, ex_ <| an_ rfl <| o23⟩
  intro ρ w a hw hG hf hd
  obtain ⟨o1, o10, o11, o13, o14, o16, o17, o18, o19, o20⟩ := hG
  obtain ⟨_, hf, rfl⟩ := got (hd 0 (by decide)) hf
  obtain ⟨_, hf, ⟨u55, rfl, o23⟩⟩ := got (hd 2 (by decide)) hf
  obtain ⟨x57, hx58, hF⟩ := of_bind hF
  refine st_fn 24 hw hf rfl rfl (by decide) (r_fn en39 hf rfl) (laws_eqScheme_ok (a0 := x30) (a1 := x53) o13.ro o23.ro hx58) fun a v w ρ hf hw hE hN hΦ => ?_
  obtain rfl := hΦ
  replace o1 := o1.ext hE
  replace o10 := o10.ext hE
  replace o11 := o11.ext hE
  replace o13 := o13.ext hE
  replace o14 := o14.ext hE
  replace o16 := o16.ext hE
  replace o17 := o17.ext hE
  replace o18 := o18.ext hE
  replace o19 := o19.ext hE
  replace o20 := o20.ext hE
  replace o23 := o23.ext hE
  refine s_ hf (r_not hf rfl) fun a hf => ?_
  refine c_nt ?_
  rcases of_ite hF with ⟨hb59, hF⟩ | ⟨hb59, hF⟩
  · refine c_ift hf rfl hb59 <| c_seq <| c_region ?_
    refine s_ hf (r_assign hf rfl) fun a hf => ?_
    refine c_nt <| c_retc ?_
    obtain rfl := Option.some.inj hF
    refine r_then <| c_ret hf (res_tmp Try.results6 hf rfl) ?_
    exact ⟨_, rfl, hw.below, rfl⟩
  refine c_iff hf rfl hb59 <| c_skip <| n_then <| c_seq <| c_seq <| c_region ?_
  refine s_ hf (r_move hf rfl) fun a hf => ?_
  refine s_ hf (r_move hf rfl) fun a hf => ?_
  obtain ⟨x60, hx61, hF⟩ := of_bind hF
  refine st_fnr hf (r_fn en45 hf rfl) (laws_toInt64SS_ok (h1.now hw) hx61) fun a v w hf hb hΦ => ?_
  obtain ⟨u62, rfl, hg⟩ := hΦ
  obtain ⟨f25, ρ, hw, hE, o25⟩ := hg.own hw hb 25 (by decide)
  replace o1 := o1.ext hE
  replace o10 := o10.ext hE
  replace o11 := o11.ext hE
  replace o13 := o13.ext hE
  replace o14 := o14.ext hE
  replace o16 := o16.ext hE
  replace o17 := o17.ext hE
  replace o18 := o18.ext hE
  replace o19 := o19.ext hE
  replace o20 := o20.ext hE
  replace o23 := o23.ext hE
  obtain ⟨x63, hx64, hF⟩ := of_bind hF
  refine st_fn 26 hw hf rfl rfl (by decide) (r_fn en38 hf rfl) (laws_eqInt64SS_ok o16.ro o25.ro hx64) fun a v w ρ hf hw hE hN hΦ => ?_
  obtain rfl := hΦ
  replace o1 := o1.ext hE
  replace o10 := o10.ext hE
  replace o11 := o11.ext hE
  replace o13 := o13.ext hE
  replace o14 := o14.ext hE
  replace o16 := o16.ext hE
  replace o17 := o17.ext hE
  replace o18 := o18.ext hE
  replace o19 := o19.ext hE
  replace o20 := o20.ext hE
  replace o23 := o23.ext hE
  replace o25 := o25.ext hE
  refine s_ hf (r_not hf rfl) fun a hf => ?_
  refine c_nt ?_
  rcases of_ite hF with ⟨hb65, hF⟩ | ⟨hb65, hF⟩
  · refine c_ift hf rfl hb65 <| c_seq <| c_region ?_
    refine s_ hf (r_assign hf rfl) fun a hf => ?_
    refine c_nt <| c_retc ?_
    obtain rfl := Option.some.inj hF
    refine r_then <| c_ret hf (res_tmp Try.results6 hf rfl) ?_
    exact ⟨_, rfl, hw.below, rfl⟩
  refine c_iff hf rfl hb65 <| c_skip <| n_then <| c_seq <| c_seq <| c_region ?_
  refine s_ hf (r_move hf rfl) fun a hf => ?_
  refine s_ hf (r_move hf rfl) fun a hf => ?_
  obtain ⟨x66, hx67, hF⟩ := of_bind hF
  refine st_fnr hf (r_fn en45 hf rfl) (laws_toInt64SS_ok (h2.now hw) hx67) fun a v w hf hb hΦ => ?_
  obtain ⟨u68, rfl, hg⟩ := hΦ
  obtain ⟨f27, ρ, hw, hE, o27⟩ := hg.own hw hb 27 (by decide)
  replace o1 := o1.ext hE
  replace o10 := o10.ext hE
  replace o11 := o11.ext hE
  replace o13 := o13.ext hE
  replace o14 := o14.ext hE
  replace o16 := o16.ext hE
  replace o17 := o17.ext hE
  replace o18 := o18.ext hE
  replace o19 := o19.ext hE
  replace o20 := o20.ext hE
  replace o23 := o23.ext hE
  replace o25 := o25.ext hE
  obtain ⟨x69, hx70, hF⟩ := of_bind hF
  refine st_fn 28 hw hf rfl rfl (by decide) (r_fn en38 hf rfl) (laws_eqInt64SS_ok o17.ro o27.ro hx70) fun a v w ρ hf hw hE hN hΦ => ?_
  obtain rfl := hΦ
  replace o1 := o1.ext hE
  replace o10 := o10.ext hE
  replace o11 := o11.ext hE
  replace o13 := o13.ext hE
  replace o14 := o14.ext hE
  replace o16 := o16.ext hE
  replace o17 := o17.ext hE
  replace o18 := o18.ext hE
  replace o19 := o19.ext hE
  replace o20 := o20.ext hE
  replace o23 := o23.ext hE
  replace o25 := o25.ext hE
  replace o27 := o27.ext hE
  refine s_ hf (r_not hf rfl) fun a hf => ?_
  refine c_nt ?_
  rcases of_ite hF with ⟨hb71, hF⟩ | ⟨hb71, hF⟩
  · refine c_ift hf rfl hb71 <| c_seq <| c_region ?_
    refine s_ hf (r_assign hf rfl) fun a hf => ?_
    refine c_nt <| c_retc ?_
    obtain rfl := Option.some.inj hF
    refine r_then <| c_ret hf (res_tmp Try.results6 hf rfl) ?_
    exact ⟨_, rfl, hw.below, rfl⟩
  refine c_iff hf rfl hb71 <| c_skip <| n_then <| c_seq <| c_seq <| c_region ?_
  refine s_ hf (r_move hf rfl) fun a hf => ?_
  refine s_ hf (r_move hf rfl) fun a hf => ?_
  obtain ⟨x72, hx73, hF⟩ := of_bind hF
  refine st_fnr hf (r_fn en45 hf rfl) (laws_toInt64SS_ok (h3.now hw) hx73) fun a v w hf hb hΦ => ?_
  obtain ⟨u74, rfl, hg⟩ := hΦ
  obtain ⟨f29, ρ, hw, hE, o29⟩ := hg.own hw hb 29 (by decide)
  replace o1 := o1.ext hE
  replace o10 := o10.ext hE
  replace o11 := o11.ext hE
  replace o13 := o13.ext hE
  replace o14 := o14.ext hE
  replace o16 := o16.ext hE
  replace o17 := o17.ext hE
  replace o18 := o18.ext hE
  replace o19 := o19.ext hE
  replace o20 := o20.ext hE
  replace o23 := o23.ext hE
  replace o25 := o25.ext hE
  replace o27 := o27.ext hE
  obtain ⟨x75, hx76, hF⟩ := of_bind hF
  refine st_fn 30 hw hf rfl rfl (by decide) (r_fn en38 hf rfl) (laws_eqInt64SS_ok o18.ro o29.ro hx76) fun a v w ρ hf hw hE hN hΦ => ?_
  obtain rfl := hΦ
  replace o1 := o1.ext hE
  replace o10 := o10.ext hE
  replace o11 := o11.ext hE
  replace o13 := o13.ext hE
  replace o14 := o14.ext hE
  replace o16 := o16.ext hE
  replace o17 := o17.ext hE
  replace o18 := o18.ext hE
  replace o19 := o19.ext hE
  replace o20 := o20.ext hE
  replace o23 := o23.ext hE
  replace o25 := o25.ext hE
  replace o27 := o27.ext hE
  replace o29 := o29.ext hE
  refine s_ hf (r_not hf rfl) fun a hf => ?_
  refine c_nt ?_
  rcases of_ite hF with ⟨hb77, hF⟩ | ⟨hb77, hF⟩
  · refine c_ift hf rfl hb77 <| c_seq <| c_region ?_
    refine s_ hf (r_assign hf rfl) fun a hf => ?_
    refine c_nt <| c_retc ?_
    obtain rfl := Option.some.inj hF
    refine r_then <| c_ret hf (res_tmp Try.results6 hf rfl) ?_
    exact ⟨_, rfl, hw.below, rfl⟩
  refine c_iff hf rfl hb77 <| c_skip <| n_then <| c_seq <| c_region ?_
  refine s_ hf (r_assign hf rfl) fun a hf => ?_
  refine c_nt <| c_seq <| c_region ?_
  refine s_ hf (r_load_agg ty39 hf rfl o14.cl rfl) fun a hf => ?_
  refine s_ hf (r_move hf rfl) fun a hf => ?_
  obtain ⟨x78, hx79, hF⟩ := of_bind hF
  refine st_mfn hf rfl rfl (by decide) (r_fn en40 hf rfl) (laws_markScheme_ok (a0 := x30) (by decide) hw o13 hx79) fun a v w ρ hf hw hA hΦ => ?_
  obtain ⟨rfl, o13⟩ := hΦ
  replace o1 := o1.adv hA (by decide)
  replace o10 := o10.adv hA (by decide)
  replace o11 := o11.adv hA (by decide)
  replace o14 := o14.adv hA (by decide)
  replace o16 := o16.adv hA (by decide) (fun _ => by unfold lab; omega)
  replace o17 := o17.adv hA (by decide) (fun _ => by unfold lab; omega)
  replace o18 := o18.adv hA (by decide) (fun _ => by unfold lab; omega)
  replace o19 := o19.adv hA (by decide)
  replace o20 := o20.adv hA (by decide)
  replace o23 := o23.adv hA (by decide)
  replace o25 := o25.adv hA (by decide) (fun _ => by unfold lab; omega)
  replace o27 := o27.adv hA (by decide) (fun _ => by unfold lab; omega)
  replace o29 := o29.adv hA (by decide) (fun _ => by unfold lab; omega)
  refine s_ hf (r_assign hf rfl) fun a hf => ?_
  refine c_nt <| c_seq <| c_region ?_
  refine s_ hf (r_move hf rfl) fun a hf => ?_
  refine s_ hf (r_move hf rfl) fun a hf => ?_
  obtain ⟨x80, hx81, hF⟩ := of_bind hF
  refine st_gmfn hf rfl rfl (by decide) (r_fn en41 hf rfl) (laws_markInt64SS_ok hw o16 hx81) fun a v w ρ hf hw hA hΦ => ?_
  obtain ⟨rfl, o16⟩ := hΦ
  replace o1 := o1.tr (hA.tr 1 (by decide) (fun _ => by unfold lab; omega))
  replace o10 := o10.tr (hA.tr 10 (by decide) (fun _ => by unfold lab; omega))
  replace o11 := o11.tr (hA.tr 11 (by decide) (fun _ => by unfold lab; omega))
  replace o13 := o13.tr (hA.tr 13 (by decide) (fun _ => by unfold lab; omega))
  replace o14 := o14.tr (hA.tr 14 (by decide) (fun _ => by unfold lab; omega))
  replace o17 := o17.tr (hA.tr 17 (by decide) (fun _ => by unfold lab; omega)) (fun _ => hA.tr _ (by unfold lab; omega) (fun _ => by unfold lab; omega))
  replace o18 := o18.tr (hA.tr 18 (by decide) (fun _ => by unfold lab; omega)) (fun _ => hA.tr _ (by unfold lab; omega) (fun _ => by unfold lab; omega))
  replace o19 := o19.tr (hA.tr 19 (by decide) (fun _ => by unfold lab; omega))
  replace o20 := o20.tr (hA.tr 20 (by decide) (fun _ => by unfold lab; omega))
  replace o23 := o23.tr (hA.tr 23 (by decide) (fun _ => by unfold lab; omega))
  replace o25 := o25.tr (hA.tr 25 (by decide) (fun _ => by unfold lab; omega)) (fun _ => hA.tr _ (by unfold lab; omega) (fun _ => by unfold lab; omega))
  replace o27 := o27.tr (hA.tr 27 (by decide) (fun _ => by unfold lab; omega)) (fun _ => hA.tr _ (by unfold lab; omega) (fun _ => by unfold lab; omega))
  replace o29 := o29.tr (hA.tr 29 (by decide) (fun _ => by unfold lab; omega)) (fun _ => hA.tr _ (by unfold lab; omega) (fun _ => by unfold lab; omega))
  refine s_ hf (r_assign hf rfl) fun a hf => ?_
  refine c_nt <| c_seq <| c_region ?_
  refine s_ hf (r_move hf rfl) fun a hf => ?_
  refine s_ hf (r_move hf rfl) fun a hf => ?_
  obtain ⟨x82, hx83, hF⟩ := of_bind hF
  refine st_gmfn hf rfl rfl (by decide) (r_fn en41 hf rfl) (laws_markInt64SS_ok hw o17 hx83) fun a v w ρ hf hw hA hΦ => ?_
  obtain ⟨rfl, o17⟩ := hΦ
  replace o1 := o1.tr (hA.tr 1 (by decide) (fun _ => by unfold lab; omega))
  replace o10 := o10.tr (hA.tr 10 (by decide) (fun _ => by unfold lab; omega))
  replace o11 := o11.tr (hA.tr 11 (by decide) (fun _ => by unfold lab; omega))
  replace o13 := o13.tr (hA.tr 13 (by decide) (fun _ => by unfold lab; omega))
  replace o14 := o14.tr (hA.tr 14 (by decide) (fun _ => by unfold lab; omega))
  replace o16 := o16.tr (hA.tr 16 (by decide) (fun _ => by unfold lab; omega)) (fun _ => hA.tr _ (by unfold lab; omega) (fun _ => by unfold lab; omega))
  replace o18 := o18.tr (hA.tr 18 (by decide) (fun _ => by unfold lab; omega)) (fun _ => hA.tr _ (by unfold lab; omega) (fun _ => by unfold lab; omega))
  replace o19 := o19.tr (hA.tr 19 (by decide) (fun _ => by unfold lab; omega))
  replace o20 := o20.tr (hA.tr 20 (by decide) (fun _ => by unfold lab; omega))
  replace o23 := o23.tr (hA.tr 23 (by decide) (fun _ => by unfold lab; omega))
  replace o25 := o25.tr (hA.tr 25 (by decide) (fun _ => by unfold lab; omega)) (fun _ => hA.tr _ (by unfold lab; omega) (fun _ => by unfold lab; omega))
  replace o27 := o27.tr (hA.tr 27 (by decide) (fun _ => by unfold lab; omega)) (fun _ => hA.tr _ (by unfold lab; omega) (fun _ => by unfold lab; omega))
  replace o29 := o29.tr (hA.tr 29 (by decide) (fun _ => by unfold lab; omega)) (fun _ => hA.tr _ (by unfold lab; omega) (fun _ => by unfold lab; omega))
  refine s_ hf (r_assign hf rfl) fun a hf => ?_
  refine c_nt <| c_seq <| c_region ?_
  refine s_ hf (r_move hf rfl) fun a hf => ?_
  refine s_ hf (r_move hf rfl) fun a hf => ?_
  obtain ⟨x84, hx85, hF⟩ := of_bind hF
  refine st_gmfn hf rfl rfl (by decide) (r_fn en41 hf rfl) (laws_markInt64SS_ok hw o18 hx85) fun a v w ρ hf hw hA hΦ => ?_
  obtain ⟨rfl, o18⟩ := hΦ
  replace o1 := o1.tr (hA.tr 1 (by decide) (fun _ => by unfold lab; omega))
  replace o10 := o10.tr (hA.tr 10 (by decide) (fun _ => by unfold lab; omega))
  replace o11 := o11.tr (hA.tr 11 (by decide) (fun _ => by unfold lab; omega))
  replace o13 := o13.tr (hA.tr 13 (by decide) (fun _ => by unfold lab; omega))
  replace o14 := o14.tr (hA.tr 14 (by decide) (fun _ => by unfold lab; omega))
  replace o16 := o16.tr (hA.tr 16 (by decide) (fun _ => by unfold lab; omega)) (fun _ => hA.tr _ (by unfold lab; omega) (fun _ => by unfold lab; omega))
  replace o17 := o17.tr (hA.tr 17 (by decide) (fun _ => by unfold lab; omega)) (fun _ => hA.tr _ (by unfold lab; omega) (fun _ => by unfold lab; omega))
  replace o19 := o19.tr (hA.tr 19 (by decide) (fun _ => by unfold lab; omega))
  replace o20 := o20.tr (hA.tr 20 (by decide) (fun _ => by unfold lab; omega))
  replace o23 := o23.tr (hA.tr 23 (by decide) (fun _ => by unfold lab; omega))
  replace o25 := o25.tr (hA.tr 25 (by decide) (fun _ => by unfold lab; omega)) (fun _ => hA.tr _ (by unfold lab; omega) (fun _ => by unfold lab; omega))
  replace o27 := o27.tr (hA.tr 27 (by decide) (fun _ => by unfold lab; omega)) (fun _ => hA.tr _ (by unfold lab; omega) (fun _ => by unfold lab; omega))
  replace o29 := o29.tr (hA.tr 29 (by decide) (fun _ => by unfold lab; omega)) (fun _ => hA.tr _ (by unfold lab; omega) (fun _ => by unfold lab; omega))
  refine s_ hf (r_assign hf rfl) fun a hf => ?_
  refine c_nt <| c_seq <| c_seq ?_
  obtain ⟨s87, hT86, hG86⟩ := of_bind hF
  clear hF
  refine c_meet (fun (s87 : Bool) a w => ∃ ρ, Wd w0 ρ w ∧ Fr 165 a [(1, va1), (2, va2), (3, va3), (4, .pointer (some ((⟨g1, 0, none⟩ : Addr).add 0))), (10, .pointer (some ((⟨g11, 0, none⟩ : Addr).add 0))), (11, vI x26.2), (16, .pointer (some ((⟨g20, 0, none⟩ : Addr).add 0))), (124, .bool s87)] ∧ Va ρ w 1 g1 48 ([vI a0.p, vI a0.n, vI a0.m, vI a0.k, va0]) ∧ O82 ρ w w0 10 u28 x26.1.ps ∧ Va ρ w 11 g11 39 ([vI x26.1.p, vI x26.1.n, vI x26.1.m, vI x26.1.k, u28]) ∧ O82 ρ w w0 19 u45 x43.1.ps ∧ Va ρ w 20 g20 39 ([vI x43.1.p, vI x43.1.n, vI x43.1.m, vI x43.1.k, u45])) s87 ?_ ?_
  · have hF := hT86
    refine c_region ?_
    refine s_ hf (r_move hf rfl) fun a hf => ?_
    refine s_ hf (r_lss hf rfl rfl) fun a hf => ?_
    refine s_ hf (r_move hf rfl) fun a hf => ?_
    rcases of_ite hF with ⟨hb88, hF⟩ | ⟨hb88, hF⟩
    · refine st_no (b := true) hf rfl rfl rfl hb88 rfl (by decide) fun a hf => ?_
      refine st_no (b := true) hf rfl rfl rfl hb88 rfl (by decide) fun a hf => ?_
      refine st_no (b := true) hf rfl rfl rfl hb88 rfl (by decide) fun a hf => ?_
      refine st_no (b := true) hf rfl rfl rfl hb88 rfl (by decide) fun a hf => ?_
      refine s_ hf (r_pick (b := true) hf rfl hb88 rfl) fun a hf => ?_
      refine s_ hf (r_move hf rfl) fun a hf => ?_
      refine st_no (b := true) hf rfl rfl rfl rfl rfl (by decide) fun a hf => ?_
      refine st_no (b := true) hf rfl rfl rfl rfl rfl (by decide) fun a hf => ?_
      refine st_no (b := true) hf rfl rfl rfl rfl rfl (by decide) fun a hf => ?_
      refine s_ hf (r_pick (b := true) hf rfl rfl rfl) fun a hf => ?_
      refine c_nil ⟨rfl, ?_⟩
      obtain rfl := Option.some.inj hF
      exact ⟨_, hw, hf.sub ⟨rfl, rfl, rfl, rfl, rfl, rfl, rfl, rfl, trivial⟩, o1, o10, o11, o19, o20⟩
    refine st_g (b := false) hf rfl rfl rfl hb88 rfl (by decide) (r_load_agg ty39 hf rfl o20.cl rfl) fun a hf => ?_
    refine st_g (b := false) hf rfl rfl rfl hb88 rfl (by decide) (r_load_agg ty39 hf rfl o11.cl rfl) fun a hf => ?_
    obtain ⟨x89, hx90, hF⟩ := of_bind hF
    refine st_gfn (b := false) 31 hw hf rfl rfl rfl hb88 rfl (by decide) (r_fn en39 hf rfl) (laws_eqScheme_ok (a0 := x43.1) (a1 := x26.1) o19.ro o10.ro hx90) fun a v w ρ hf hw hE hN hΦ => ?_
    obtain rfl := hΦ
    replace o1 := o1.ext hE
    replace o10 := o10.ext hE
    replace o11 := o11.ext hE
    replace o13 := o13.ext hE
    replace o14 := o14.ext hE
    replace o16 := o16.ext hE
    replace o17 := o17.ext hE
    replace o18 := o18.ext hE
    replace o19 := o19.ext hE
    replace o20 := o20.ext hE
    replace o23 := o23.ext hE
    replace o25 := o25.ext hE
    replace o27 := o27.ext hE
    replace o29 := o29.ext hE
    refine st_g (b := false) hf rfl rfl rfl hb88 rfl (by decide) (r_not hf rfl) fun a hf => ?_
    refine s_ hf (r_pick (b := false) hf rfl hb88 rfl) fun a hf => ?_
    refine s_ hf (r_move hf rfl) fun a hf => ?_
    rcases of_ite hF with ⟨hb91, hF⟩ | ⟨hb91, hF⟩
    · refine st_no (b := true) hf rfl rfl rfl hb91 rfl (by decide) fun a hf => ?_
      refine st_no (b := true) hf rfl rfl rfl hb91 rfl (by decide) fun a hf => ?_
      refine st_no (b := true) hf rfl rfl rfl hb91 rfl (by decide) fun a hf => ?_
      refine s_ hf (r_pick (b := true) hf rfl hb91 rfl) fun a hf => ?_
      refine c_nil ⟨rfl, ?_⟩
      obtain rfl := Option.some.inj hF
      exact ⟨_, hw, hf.sub ⟨rfl, rfl, rfl, rfl, rfl, rfl, rfl, rfl, trivial⟩, o1, o10, o11, o19, o20⟩
    refine st_g (b := false) hf rfl rfl rfl hb91 rfl (by decide) (r_move hf rfl) fun a hf => ?_
    refine st_g (b := false) hf rfl rfl rfl hb91 rfl (by decide) (r_move hf rfl) fun a hf => ?_
    refine st_g (b := false) hf rfl rfl rfl hb91 rfl (by decide) (r_neq hf rfl rfl) fun a hf => ?_
    refine s_ hf (r_pick (b := false) hf rfl hb91 rfl) fun a hf => ?_
    refine c_nil ⟨rfl, ?_⟩
    obtain rfl := Option.some.inj hF
    exact ⟨_, hw, hf.sub ⟨rfl, rfl, rfl, rfl, rfl, rfl, rfl, rfl, trivial⟩, o1, o10, o11, o19, o20⟩
  rintro a w ⟨ρ, hw, hf, o1, o10, o11, o19, o20⟩
  have hF := hG86
  refine n_then ?_
  rcases of_ite hF with ⟨hb92, hF⟩ | ⟨hb92, hF⟩
  · refine c_ift hf rfl hb92 <| c_seq <| c_region ?_
    refine s_ hf (r_assign hf rfl) fun a hf => ?_
    refine c_nt <| c_retc ?_
    obtain rfl := Option.some.inj hF
    refine r_then <| c_ret hf (res_tmp Try.results6 hf rfl) ?_
    exact ⟨_, rfl, hw.below, rfl⟩
  refine c_iff hf rfl hb92 <| c_skip <| n_then <| c_seq <| c_region ?_
  refine s_ hf (r_assign hf rfl) fun a hf => ?_
  refine c_nt <| c_seq <| c_region ?_
  refine s_ hf (r_load_agg ty39 hf rfl o20.cl rfl) fun a hf => ?_
  refine s_ hf (r_move hf rfl) fun a hf => ?_
  obtain ⟨x93, hx94, hF⟩ := of_bind hF
  refine st_mfn hf rfl rfl (by decide) (r_fn en40 hf rfl) (laws_markScheme_ok (a0 := x43.1) (by decide) hw o19 hx94) fun a v w ρ hf hw hA hΦ => ?_
  obtain ⟨rfl, o19⟩ := hΦ
  replace o1 := o1.adv hA (by decide)
  replace o10 := o10.adv hA (by decide)
  replace o11 := o11.adv hA (by decide)
  replace o20 := o20.adv hA (by decide)
  refine s_ hf (r_assign hf rfl) fun a hf => ?_
  refine c_nt <| c_seq <| c_region ?_
  refine s_ hf (r_assign hf rfl) fun a hf => ?_
  refine c_nt <| c_seq <| c_region ?_
  refine s_ hf (r_load_agg ty39 hf rfl o20.cl rfl) fun a hf => ?_
  refine s_ hf (r_move hf rfl) fun a hf => ?_
  obtain ⟨x95, hx96, hF⟩ := of_bind hF
  refine st_fn 32 hw hf rfl rfl (by decide) (r_fn en47 hf rfl) (laws_heldScheme_ok (a0 := (⟨x43.1.p, x43.1.n, x43.1.m, x43.1.k, x93.2⟩ : Sch)) o19.ro hx96) fun a v w ρ hf hw hE hN hΦ => ?_
  obtain rfl := hΦ
  replace o1 := o1.ext hE
  replace o10 := o10.ext hE
  replace o11 := o11.ext hE
  replace o19 := o19.ext hE
  replace o20 := o20.ext hE
  refine s_ hf (r_assign hf rfl) fun a hf => ?_
  refine c_nt <| c_seq <| c_seq <| c_region ?_
  refine s_ hf (r_move hf rfl) fun a hf => ?_
  refine s_ hf (r_lss hf rfl rfl) fun a hf => ?_
  refine c_nt ?_
  rcases of_ite hF with ⟨hb97, hF⟩ | ⟨hb97, hF⟩
  · refine c_ift hf rfl hb97 <| c_seq <| c_region ?_
    refine s_ hf (r_assign hf rfl) fun a hf => ?_
    refine c_nt <| c_retc ?_
    obtain rfl := Option.some.inj hF
    refine r_then <| c_ret hf (res_tmp Try.results6 hf rfl) ?_
    exact ⟨_, rfl, hw.below, rfl⟩
  refine c_iff hf rfl hb97 <| c_skip <| n_then <| c_seq <| c_seq <| c_region ?_
  refine s_ hf (r_move hf rfl) fun a hf => ?_
  refine s_ hf (r_move hf rfl) fun a hf => ?_
  refine s_ hf (r_neq hf rfl rfl) fun a hf => ?_
  refine c_nt ?_
  rcases of_ite hF with ⟨hb98, hF⟩ | ⟨hb98, hF⟩
  · refine c_ift hf rfl hb98 <| c_seq <| c_region ?_
    refine s_ hf (r_assign hf rfl) fun a hf => ?_
    refine c_nt <| c_retc ?_
    obtain rfl := Option.some.inj hF
    refine r_then <| c_ret hf (res_tmp Try.results6 hf rfl) ?_
    exact ⟨_, rfl, hw.below, rfl⟩
  refine c_iff hf rfl hb98 <| c_skip <| n_then <| c_seq <| c_region ?_
  refine s_ hf (r_load_agg ty48 hf rfl o1.cl rfl) fun a hf => ?_
  obtain ⟨x99, hx100, hF⟩ := of_bind hF
  refine st_fn 33 hw hf rfl rfl (by decide) (r_fn en36 hf rfl) (laws_toScheme_ok (a0 := a0) (h0.now hw) hx100) fun a v w ρ hf hw hE hN hΦ => ?_
  obtain ⟨u101, rfl, hr102⟩ := hΦ
  replace o1 := o1.ext hE
  replace o10 := o10.ext hE
  replace o11 := o11.ext hE
  replace o19 := o19.ext hE
  replace o20 := o20.ext hE
  have o33 := hN hr102
  refine s_ hf (r_move hf rfl) fun a hf => ?_
  obtain ⟨x103, hx104, hF⟩ := of_bind hF
  refine st_fnr hf (r_fn en45 hf rfl) (laws_toInt64SS_ok (h1.now hw) hx104) fun a v w hf hb hΦ => ?_
  obtain ⟨u105, rfl, hg⟩ := hΦ
  obtain ⟨f34, ρ, hw, hE, o34⟩ := hg.own hw hb 34 (by decide)
  replace o1 := o1.ext hE
  replace o10 := o10.ext hE
  replace o11 := o11.ext hE
  replace o19 := o19.ext hE
  replace o20 := o20.ext hE
  replace o33 := o33.ext hE
  refine s_ hf (r_move hf rfl) fun a hf => ?_
  obtain ⟨x106, hx107, hF⟩ := of_bind hF
  refine st_fnr hf (r_fn en45 hf rfl) (laws_toInt64SS_ok (h2.now hw) hx107) fun a v w hf hb hΦ => ?_
  obtain ⟨u108, rfl, hg⟩ := hΦ
  obtain ⟨f35, ρ, hw, hE, o35⟩ := hg.own hw hb 35 (by decide)
  replace o1 := o1.ext hE
  replace o10 := o10.ext hE
  replace o11 := o11.ext hE
  replace o19 := o19.ext hE
  replace o20 := o20.ext hE
  replace o33 := o33.ext hE
  replace o34 := o34.ext hE
  refine s_ hf (r_move hf rfl) fun a hf => ?_
  obtain ⟨x109, hx110, hF⟩ := of_bind hF
  refine st_fnr hf (r_fn en45 hf rfl) (laws_toInt64SS_ok (h3.now hw) hx110) fun a v w hf hb hΦ => ?_
  obtain ⟨u111, rfl, hg⟩ := hΦ
  obtain ⟨f36, ρ, hw, hE, o36⟩ := hg.own hw hb 36 (by decide)
  replace o1 := o1.ext hE
  replace o10 := o10.ext hE
  replace o11 := o11.ext hE
  replace o19 := o19.ext hE
  replace o20 := o20.ext hE
  replace o33 := o33.ext hE
  replace o34 := o34.ext hE
  replace o35 := o35.ext hE
  obtain ⟨x112, hx113, hF⟩ := of_bind hF
  refine st_fn 37 hw hf rfl rfl (by decide) (r_fn en46 hf rfl) (impl_ChangeScheme_ok (a0 := x99) o33.ro o34.ro o35.ro o36.ro hx113) fun a v w ρ hf hw hE hN hΦ => ?_
  obtain ⟨u114, rfl, hr115⟩ := hΦ
  replace o1 := o1.ext hE
  replace o10 := o10.ext hE
  replace o11 := o11.ext hE
  replace o19 := o19.ext hE
  replace o20 := o20.ext hE
  replace o33 := o33.ext hE
  replace o34 := o34.ext hE
  replace o35 := o35.ext hE
  replace o36 := o36.ext hE
  have o37 := hN hr115
  refine s_ hf (r_move hf rfl) fun a hf => ?_
  refine s_ hf (r_extract hf rfl rfl) fun a hf => ?_
  refine s_ hf (r_extract hf rfl rfl) fun a hf => ?_
  have o39 : Ow (kf cProd) 82 ρ w w0.heap.size 39 (.slice none 0 0) [] := Ow.nil _ _ _ _ _ _
  refine sx_ hf (r_alloc (cs := [vI 0, vI 0, vI 0, vI 0, (.slice none 0 0)]) 38 ze39 rfl hw) fun a v w hf hΦ => ?_
  obtain ⟨g38, ρ, rfl, hw, hE, o38⟩ := hΦ
  replace o1 := o1.ext hE
  replace o10 := o10.ext hE
  replace o11 := o11.ext hE
  replace o19 := o19.ext hE
  replace o20 := o20.ext hE
  replace o33 := o33.ext hE
  replace o34 := o34.ext hE
  replace o35 := o35.ext hE
  replace o36 := o36.ext hE
  replace o37 := o37.ext hE
  replace o39 := o39.ext hE
  refine sk_ hf (r_store_w (cs' := [vI x112.1.p, vI x112.1.n, vI x112.1.m, vI x112.1.k, u114]) hw o38 (by decide) ty39 rfl rfl (one_sch o37.ro.one) hf rfl rfl rfl) fun a w hf hΦ => ?_
  obtain ⟨hw, hA, o38⟩ := hΦ
  replace o1 := o1.adv hA (by decide)
  replace o10 := o10.adv hA (by decide)
  replace o11 := o11.adv hA (by decide)
  replace o19 := o19.adv hA (by decide)
  replace o20 := o20.adv hA (by decide)
  replace o33 := o33.adv hA (by decide)
  replace o34 := o34.adv hA (by decide) (fun _ => by unfold lab; omega)
  replace o35 := o35.adv hA (by decide) (fun _ => by unfold lab; omega)
  replace o36 := o36.adv hA (by decide) (fun _ => by unfold lab; omega)
  replace o37 := o37.adv hA (by decide)
  replace o39 := o39.adv hA (by decide)
  refine s_ hf (r_assign hf rfl) fun a hf => ?_
  refine c_nt <| c_seq <| c_seq ?_
  obtain ⟨s117, hT116, hG116⟩ := of_bind hF
  clear hF
  refine c_meet (fun (s117 : Bool) a w => ∃ ρ, Wd w0 ρ w ∧ Fr 165 a [(16, .pointer (some ((⟨g20, 0, none⟩ : Addr).add 0))), (19, vI x93.1), (156, .bool s117)] ∧ O82 ρ w w0 19 u45 x93.2 ∧ Va ρ w 20 g20 39 ([vI x43.1.p, vI x43.1.n, vI x43.1.m, vI x43.1.k, u45])) s117 ?_ ?_
  · have hF := hT116
    refine c_region ?_
    refine s_ hf (r_load_agg ty39 hf rfl o38.cl rfl) fun a hf => ?_
    refine s_ hf (r_load_agg ty39 hf rfl o11.cl rfl) fun a hf => ?_
    obtain ⟨x118, hx119, hF⟩ := of_bind hF
    refine st_fn 40 hw hf rfl rfl (by decide) (r_fn en39 hf rfl) (laws_eqScheme_ok (a0 := x112.1) (a1 := x26.1) o37.ro o10.ro hx119) fun a v w ρ hf hw hE hN hΦ => ?_
    obtain rfl := hΦ
    replace o1 := o1.ext hE
    replace o10 := o10.ext hE
    replace o11 := o11.ext hE
    replace o19 := o19.ext hE
    replace o20 := o20.ext hE
    replace o33 := o33.ext hE
    replace o34 := o34.ext hE
    replace o35 := o35.ext hE
    replace o36 := o36.ext hE
    replace o37 := o37.ext hE
    replace o39 := o39.ext hE
    replace o38 := o38.ext hE
    refine s_ hf (r_not hf rfl) fun a hf => ?_
    refine s_ hf (r_move hf rfl) fun a hf => ?_
    rcases of_ite hF with ⟨hb120, hF⟩ | ⟨hb120, hF⟩
    · refine st_no (b := true) hf rfl rfl rfl hb120 rfl (by decide) fun a hf => ?_
      refine st_no (b := true) hf rfl rfl rfl hb120 rfl (by decide) fun a hf => ?_
      refine st_no (b := true) hf rfl rfl rfl hb120 rfl (by decide) fun a hf => ?_
      refine s_ hf (r_pick (b := true) hf rfl hb120 rfl) fun a hf => ?_
      refine c_nil ⟨rfl, ?_⟩
      obtain rfl := Option.some.inj hF
      exact ⟨_, hw, hf.sub ⟨rfl, rfl, rfl, trivial⟩, o19, o20⟩
    refine st_g (b := false) hf rfl rfl rfl hb120 rfl (by decide) (r_move hf rfl) fun a hf => ?_
    refine st_g (b := false) hf rfl rfl rfl hb120 rfl (by decide) (r_move hf rfl) fun a hf => ?_
    refine st_g (b := false) hf rfl rfl rfl hb120 rfl (by decide) (r_neq hf rfl rfl) fun a hf => ?_
    refine s_ hf (r_pick (b := false) hf rfl hb120 rfl) fun a hf => ?_
    refine c_nil ⟨rfl, ?_⟩
    obtain rfl := Option.some.inj hF
    exact ⟨_, hw, hf.sub ⟨rfl, rfl, rfl, trivial⟩, o19, o20⟩
  rintro a w ⟨ρ, hw, hf, o19, o20⟩
  have hF := hG116
  refine n_then ?_
  rcases of_ite hF with ⟨hb121, hF⟩ | ⟨hb121, hF⟩
  · refine c_ift hf rfl hb121 <| c_seq <| c_region ?_
    refine s_ hf (r_assign hf rfl) fun a hf => ?_
    refine c_nt <| c_retc ?_
    obtain rfl := Option.some.inj hF
    refine r_then <| c_ret hf (res_tmp Try.results6 hf rfl) ?_
    exact ⟨_, rfl, hw.below, rfl⟩
  refine c_iff hf rfl hb121 <| c_skip <| n_then <| c_seq <| c_region ?_
  refine s_ hf (r_assign hf rfl) fun a hf => ?_
  refine c_nt <| c_seq <| c_region ?_
  refine s_ hf (r_load_agg ty39 hf rfl o20.cl rfl) fun a hf => ?_
  refine s_ hf (r_move hf rfl) fun a hf => ?_
  obtain ⟨x122, hx123, hF⟩ := of_bind hF
  refine st_fn 41 hw hf rfl rfl (by decide) (r_fn en47 hf rfl) (laws_heldScheme_ok (a0 := (⟨x43.1.p, x43.1.n, x43.1.m, x43.1.k, x93.2⟩ : Sch)) o19.ro hx123) fun a v w ρ hf hw hE hN hΦ => ?_
  obtain rfl := hΦ
  replace o19 := o19.ext hE
  replace o20 := o20.ext hE
  refine s_ hf (r_assign hf rfl) fun a hf => ?_
  refine c_nt <| c_seq <| c_seq <| c_region ?_
  refine s_ hf (r_move hf rfl) fun a hf => ?_
  refine s_ hf (r_lss hf rfl rfl) fun a hf => ?_
  refine c_nt ?_
  rcases of_ite hF with ⟨hb124, hF⟩ | ⟨hb124, hF⟩
  · refine c_ift hf rfl hb124 <| c_seq <| c_region ?_
    refine s_ hf (r_assign hf rfl) fun a hf => ?_
    refine c_nt <| c_retc ?_
    obtain rfl := Option.some.inj hF
    refine r_then <| c_ret hf (res_tmp Try.results6 hf rfl) ?_
    exact ⟨_, rfl, hw.below, rfl⟩
  refine c_iff hf rfl hb124 <| c_skip <| n_then <| c_seq <| c_seq <| c_region ?_
  refine s_ hf (r_move hf rfl) fun a hf => ?_
  refine s_ hf (r_move hf rfl) fun a hf => ?_
  refine s_ hf (r_neq hf rfl rfl) fun a hf => ?_
  refine c_nt ?_
  rcases of_ite hF with ⟨hb125, hF⟩ | ⟨hb125, hF⟩
  · refine c_ift hf rfl hb125 <| c_seq <| c_region ?_
    refine s_ hf (r_assign hf rfl) fun a hf => ?_
    refine c_nt <| c_retc ?_
    obtain rfl := Option.some.inj hF
    refine r_then <| c_ret hf (res_tmp Try.results6 hf rfl) ?_
    exact ⟨_, rfl, hw.below, rfl⟩
  refine c_iff hf rfl hb125 <| c_skip <| n_then <| c_seq <| c_region ?_
  refine s_ hf (r_assign hf rfl) fun a hf => ?_
  refine c_nt <| c_retc ?_
  obtain rfl := Option.some.inj hF
  refine c_ret hf (res_tmp Try.results6 hf rfl) ?_
  exact ⟨_, rfl, hw.below, rfl⟩
end Go.Proofs.YtB
