/- Functions of the program as plain functions, and that they compute these. Printed by gen.py. -/
import Derived.Test.YtbmjglgpckfpjaaEqG1
set_option linter.unusedVariables false
set_option linter.unusedSimpArgs false
set_option maxRecDepth 4000
set_option maxHeartbeats 1000000
namespace Go.Proofs.YtB
open Go Go.RowKit Go.Proofs Go.Proofs.YtbmjglgpckfpjaaW.PrintWords
/-! f74 -/
noncomputable def spec_l01Less_l4 (a0 : Prod) (a1 : Prod) (s2 : Int) (s5 : Int) : Option (LR Int Bool) :=
  if (decide (s5 < 9)) = true then (if 0 ≤ s2 ∧ s2 < 3 then (if 0 ≤ s5 ∧ s5 < 9 then (if (decide (((vg 0 (vg zForm (#v[a0.1, a0.2.1, a0.2.2] : Forms) s2) s5).toNat : Int) ≠ ((vg 0 (vg zForm (#v[a1.1, a1.2.1, a1.2.2] : Forms) s2) s5).toNat : Int))) = true then (some (.ret (decide (((vg 0 (vg zForm (#v[a0.1, a0.2.1, a0.2.2] : Forms) s2) s5).toNat : Int) < ((vg 0 (vg zForm (#v[a1.1, a1.2.1, a1.2.2] : Forms) s2) s5).toNat : Int))))) else (some (.next (w64 (s5 + 1))))) else none) else none) else (some (.stop s5))
noncomputable def spec_l01Less_l1 (a0 : Prod) (a1 : Prod) (s2 : Int) : Option (LR Int Bool) :=
  if (decide (s2 < 3)) = true then ((iter (fun s => spec_l01Less_l4 a0 a1 s2 s) 0).bind fun o => match o with | .stop s5 => (some (.next (w64 (s2 + 1)))) | .ret r => some (.ret r) | .next _ => none) else (some (.stop s2))
noncomputable def spec_l01Less (a0 : Prod) (a1 : Prod) : Option Bool :=
  (iter (fun s => spec_l01Less_l1 a0 a1 s) 0).bind fun o => match o with | .stop s2 => (some (false)) | .ret r => some r | .next _ => none
theorem spec_l01Less_ok {w0 : World} {a0 : Prod} {a1 : Prod}   {r : Bool} (hF : spec_l01Less a0 a1 = some r) :
    Calls Try.prog 74 [.agg (cProd.enc a0).toArray, .agg (cProd.enc a1).toArray].toArray w0 fun e w => ∃ v, e = .returned v ∧ Below w0.heap.size w0 w ∧ .bool r = v := by
  refine calls_of (k := 53) Try.func74 rfl rfl (Nat.le_of_ble_eq_true rfl) fun a hf => ?_
  replace hf : Fr 53 a [(0, .agg (cProd.enc a0).toArray), (1, .agg (cProd.enc a1).toArray)] := hf
  refine c_start fun w ρ hw => ?_
  unfold spec_l01Less at hF
  refine c_seq <| c_region ?_
  refine sx_ hf (r_box (cs := cProd.enc a0) 1 hw hf rfl rfl) fun a v w hf hΦ => ?_
  obtain ⟨g1, ρ, rfl, hw, hE, o1⟩ := hΦ
  refine sx_ hf (r_box (cs := cProd.enc a1) 2 hw hf rfl rfl) fun a v w hf hΦ => ?_
  obtain ⟨g2, ρ, rfl, hw, hE, o2⟩ := hΦ
  replace o1 := o1.ext hE
  refine s_ hf (r_assign hf rfl) fun a hf => ?_
  refine c_nt <| c_seq ?_
  replace hf : Fr 53 a [(2, .pointer (some ((⟨g1, 0, none⟩ : Addr).add 0))), (3, .pointer (some ((⟨g2, 0, none⟩ : Addr).add 0)))] := hf.sub ⟨rfl, rfl, trivial⟩
  refine c_stage 17 [16] mixed (by kernel_rfl) (by kernel_rfl) (fun c ρ w => Va ρ w 1 g1 58 (cProd.enc a0) ∧ Va ρ w 2 g2 58 (cProd.enc a1)) ?_ [fun c ρ w v => .pointer (some ((⟨g1, 0, none⟩ : Addr).add (0 + 0))) = v, fun c ρ w v => .agg (cForm.enc a0.1).toArray = v, fun c ρ w v => .pointer (some ((⟨g1, 0, none⟩ : Addr).add (0 + 9))) = v, fun c ρ w v => .agg (cForm.enc a0.2.1).toArray = v, fun c ρ w v => .pointer (some ((⟨g1, 0, none⟩ : Addr).add (0 + 18))) = v, fun c ρ w v => .agg (cForm.enc a0.2.2).toArray = v, fun c ρ w v => .agg (cForms.enc (#v[a0.1, a0.2.1, a0.2.2] : Forms)).toArray = v, fun c ρ w v => .pointer (some ((⟨g2, 0, none⟩ : Addr).add (0 + 0))) = v, fun c ρ w v => .agg (cForm.enc a1.1).toArray = v, fun c ρ w v => .pointer (some ((⟨g2, 0, none⟩ : Addr).add (0 + 9))) = v, fun c ρ w v => .agg (cForm.enc a1.2.1).toArray = v, fun c ρ w v => .pointer (some ((⟨g2, 0, none⟩ : Addr).add (0 + 18))) = v, fun c ρ w v => .agg (cForm.enc a1.2.2).toArray = v, fun c ρ w v => .agg (cForms.enc (#v[a1.1, a1.2.1, a1.2.2] : Forms)).toArray = v, fun c ρ w v => ∃ g3, .pointer (some ((⟨g3, 0, none⟩ : Addr).add 0)) = v ∧ (c ≤ 0 → Va ρ w 3 g3 114 (cForms.enc zForms)) ∧ (0 < c → Va ρ w 3 g3 114 (cForms.enc (#v[a0.1, a0.2.1, a0.2.2] : Forms))), fun c ρ w v => ∃ g4, .pointer (some ((⟨g4, 0, none⟩ : Addr).add 0)) = v ∧ Va ρ w 4 g4 114 (cForms.enc zForms), fun _ _ _ _ => True] ?_ hw ⟨o1, o2⟩ hf ?_ ?_
  · intro c ρ w ρ' w' hE hG
    obtain ⟨o1, o2⟩ := hG
    exact ⟨o1.ext hE, o2.ext hE⟩
  · exact LastsS.cons (fun _ _ _ _ _ _ _ h => h) <| LastsS.cons (fun _ _ _ _ _ _ _ h => h) <| LastsS.cons (fun _ _ _ _ _ _ _ h => h) <| LastsS.cons (fun _ _ _ _ _ _ _ h => h) <| LastsS.cons (fun _ _ _ _ _ _ _ h => h) <| LastsS.cons (fun _ _ _ _ _ _ _ h => h) <| LastsS.cons (fun _ _ _ _ _ _ _ h => h) <| LastsS.cons (fun _ _ _ _ _ _ _ h => h) <| LastsS.cons (fun _ _ _ _ _ _ _ h => h) <| LastsS.cons (fun _ _ _ _ _ _ _ h => h) <| LastsS.cons (fun _ _ _ _ _ _ _ h => h) <| LastsS.cons (fun _ _ _ _ _ _ _ h => h) <| LastsS.cons (fun _ _ _ _ _ _ _ h => h) <| LastsS.cons (fun _ _ _ _ _ _ _ h => h) <| LastsS.cons (fun c _ _ _ _ _ hE h => by obtain ⟨g3, h, hx, hy⟩ := h; exact ⟨_, h, fun h => (hx h).ext hE, (fun h => by obtain o3 := hy h; exact o3.ext hE)⟩) <| LastsS.cons (fun c _ _ _ _ _ hE h => by obtain ⟨g4, h, o4⟩ := h; exact ⟨_, h, o4.ext hE⟩) <| LastsS.cons (fun _ _ _ _ _ _ _ h => h) <| LastsS.nil
  · refine StepsS.float rfl ?_ <| StepsS.float rfl ?_ <| StepsS.float rfl ?_ <| StepsS.float rfl ?_ <| StepsS.float rfl ?_ <| StepsS.float rfl ?_ <| StepsS.float rfl ?_ <| StepsS.float rfl ?_ <| StepsS.float rfl ?_ <| StepsS.float rfl ?_ <| StepsS.float rfl ?_ <| StepsS.float rfl ?_ <| StepsS.float rfl ?_ <| StepsS.float rfl ?_ <| StepsS.float rfl ?_ <| StepsS.float rfl ?_ <| StepsS.main 0 rfl rfl ?_ <| StepsS.nil
    · intro c ρ w a hs hw hG hf hd K hK
      obtain ⟨o1, o2⟩ := hG
      exact dv_ hK hw (wn rfl) (r_fa fa58_0 hf rfl) rfl
    · intro c ρ w a hs hw hG hf hd K hK
      obtain ⟨o1, o2⟩ := hG
      obtain ⟨_, ht0, rfl⟩ := hd 0 (by kernel_rfl) (by kernel_rfl)
      replace hf := hf.more ht0
      exact dv_ hK hw (wn rfl) (r_load_agg ty56 hf rfl (o1.cl.lens lProd_0) (cForm.len _)) rfl
    · intro c ρ w a hs hw hG hf hd K hK
      obtain ⟨o1, o2⟩ := hG
      exact dv_ hK hw (wn rfl) (r_fa fa58_1 hf rfl) rfl
    · intro c ρ w a hs hw hG hf hd K hK
      obtain ⟨o1, o2⟩ := hG
      obtain ⟨_, ht2, rfl⟩ := hd 2 (by kernel_rfl) (by kernel_rfl)
      replace hf := hf.more ht2
      exact dv_ hK hw (wn rfl) (r_load_agg ty56 hf rfl (o1.cl.lens lProd_1) (cForm.len _)) rfl
    · intro c ρ w a hs hw hG hf hd K hK
      obtain ⟨o1, o2⟩ := hG
      exact dv_ hK hw (wn rfl) (r_fa fa58_2 hf rfl) rfl
    · intro c ρ w a hs hw hG hf hd K hK
      obtain ⟨o1, o2⟩ := hG
      obtain ⟨_, ht4, rfl⟩ := hd 4 (by kernel_rfl) (by kernel_rfl)
      replace hf := hf.more ht4
      exact dv_ hK hw (wn rfl) (r_load_agg ty56 hf rfl (o1.cl.lens lProd_2) (cForm.len _)) rfl
    · intro c ρ w a hs hw hG hf hd K hK
      obtain ⟨o1, o2⟩ := hG
      obtain ⟨_, ht1, rfl⟩ := hd 1 (by kernel_rfl) (by kernel_rfl)
      replace hf := hf.more ht1
      obtain ⟨_, ht3, rfl⟩ := hd 3 (by kernel_rfl) (by kernel_rfl)
      replace hf := hf.more ht3
      obtain ⟨_, ht5, rfl⟩ := hd 5 (by kernel_rfl) (by kernel_rfl)
      replace hf := hf.more ht5
      exact dv_ hK hw (wn rfl) (r_build_arr (vs := [(0, .agg (cForm.enc a0.1).toArray), (1, .agg (cForm.enc a0.2.1).toArray), (2, .agg (cForm.enc a0.2.2).toArray)]) (res := (cForms.enc (#v[a0.1, a0.2.1, a0.2.2] : Forms)).toArray) Try.underlying114 sz56 ze114 hf rfl rfl ((fill_lens (d := cForms) (z := zForms) (Lens.vec zForm cForm (0 : Int) (by decide) (by decide)) rfl rfl).trans ((fill_lens (d := cForms) (z := vs zForms 0 a0.1) (Lens.vec zForm cForm (1 : Int) (by decide) (by decide)) rfl rfl).trans ((fill_lens (d := cForms) (z := vs (vs zForms 0 a0.1) 1 a0.2.1) (Lens.vec zForm cForm (2 : Int) (by decide) (by decide)) rfl rfl).trans rfl)))) rfl
    · intro c ρ w a hs hw hG hf hd K hK
      obtain ⟨o1, o2⟩ := hG
      exact dv_ hK hw (wn rfl) (r_fa fa58_0 hf rfl) rfl
    · intro c ρ w a hs hw hG hf hd K hK
      obtain ⟨o1, o2⟩ := hG
      obtain ⟨_, ht7, rfl⟩ := hd 7 (by kernel_rfl) (by kernel_rfl)
      replace hf := hf.more ht7
      exact dv_ hK hw (wn rfl) (r_load_agg ty56 hf rfl (o2.cl.lens lProd_0) (cForm.len _)) rfl
    · intro c ρ w a hs hw hG hf hd K hK
      obtain ⟨o1, o2⟩ := hG
      exact dv_ hK hw (wn rfl) (r_fa fa58_1 hf rfl) rfl
    · intro c ρ w a hs hw hG hf hd K hK
      obtain ⟨o1, o2⟩ := hG
      obtain ⟨_, ht9, rfl⟩ := hd 9 (by kernel_rfl) (by kernel_rfl)
      replace hf := hf.more ht9
      exact dv_ hK hw (wn rfl) (r_load_agg ty56 hf rfl (o2.cl.lens lProd_1) (cForm.len _)) rfl
    · intro c ρ w a hs hw hG hf hd K hK
      obtain ⟨o1, o2⟩ := hG
      exact dv_ hK hw (wn rfl) (r_fa fa58_2 hf rfl) rfl
    · intro c ρ w a hs hw hG hf hd K hK
      obtain ⟨o1, o2⟩ := hG
      obtain ⟨_, ht11, rfl⟩ := hd 11 (by kernel_rfl) (by kernel_rfl)
      replace hf := hf.more ht11
      exact dv_ hK hw (wn rfl) (r_load_agg ty56 hf rfl (o2.cl.lens lProd_2) (cForm.len _)) rfl
    · intro c ρ w a hs hw hG hf hd K hK
      obtain ⟨o1, o2⟩ := hG
      obtain ⟨_, ht8, rfl⟩ := hd 8 (by kernel_rfl) (by kernel_rfl)
      replace hf := hf.more ht8
      obtain ⟨_, ht10, rfl⟩ := hd 10 (by kernel_rfl) (by kernel_rfl)
      replace hf := hf.more ht10
      obtain ⟨_, ht12, rfl⟩ := hd 12 (by kernel_rfl) (by kernel_rfl)
      replace hf := hf.more ht12
      exact dv_ hK hw (wn rfl) (r_build_arr (vs := [(0, .agg (cForm.enc a1.1).toArray), (1, .agg (cForm.enc a1.2.1).toArray), (2, .agg (cForm.enc a1.2.2).toArray)]) (res := (cForms.enc (#v[a1.1, a1.2.1, a1.2.2] : Forms)).toArray) Try.underlying114 sz56 ze114 hf rfl rfl ((fill_lens (d := cForms) (z := zForms) (Lens.vec zForm cForm (0 : Int) (by decide) (by decide)) rfl rfl).trans ((fill_lens (d := cForms) (z := vs zForms 0 a1.1) (Lens.vec zForm cForm (1 : Int) (by decide) (by decide)) rfl rfl).trans ((fill_lens (d := cForms) (z := vs (vs zForms 0 a1.1) 1 a1.2.1) (Lens.vec zForm cForm (2 : Int) (by decide) (by decide)) rfl rfl).trans rfl)))) rfl
    · intro c ρ w a hs hw hG hf hd K hK
      obtain ⟨o1, o2⟩ := hG
      refine dx_ hK hw (wn rfl) (r_alloc (cs := cForms.enc zForms) 3 ze114 rfl hw) fun v w' hΦ => ?_
      obtain ⟨g3, ρ, rfl, hw, hE, o3⟩ := hΦ
      exact ⟨_, hw, hE, ex_ <| an_ rfl <| an_ (fun _ => o3) <| fun hc => absurd (hs 0 (by decide) (by kernel_rfl)) (Nat.not_le_of_lt hc)⟩
    · intro c ρ w a hs hw hG hf hd K hK
      obtain ⟨o1, o2⟩ := hG
      refine dx_ hK hw (wn rfl) (r_alloc (cs := cForms.enc zForms) 4 ze114 rfl hw) fun v w' hΦ => ?_
      obtain ⟨g4, ρ, rfl, hw, hE, o4⟩ := hΦ
      exact ⟨_, hw, hE, ex_ <| an_ rfl <| o4⟩
    · intro ρ w a S hw hG hf hS hdep hSi K hK
      obtain ⟨o1, o2⟩ := hG
      have hfL := hf
      obtain ⟨_, ht6, rfl⟩ := hS 6 (by decide) (hdep 6 (by kernel_rfl)) (by kernel_rfl)
      replace hf := hf.more ht6
      obtain ⟨_, ht14, g3, rfl, hx14, hy14⟩ := hS 14 (by decide) (hdep 14 (by kernel_rfl)) (by kernel_rfl)
      have o3 := hx14 (by decide)
      replace hf := hf.more ht14
      refine m_skip (Γ := fun c ρ w => Va ρ w 1 g1 58 (cProd.enc a0) ∧ Va ρ w 2 g2 58 (cProd.enc a1)) (Rl := [fun c ρ w v => .pointer (some ((⟨g1, 0, none⟩ : Addr).add (0 + 0))) = v, fun c ρ w v => .agg (cForm.enc a0.1).toArray = v, fun c ρ w v => .pointer (some ((⟨g1, 0, none⟩ : Addr).add (0 + 9))) = v, fun c ρ w v => .agg (cForm.enc a0.2.1).toArray = v, fun c ρ w v => .pointer (some ((⟨g1, 0, none⟩ : Addr).add (0 + 18))) = v, fun c ρ w v => .agg (cForm.enc a0.2.2).toArray = v, fun c ρ w v => .agg (cForms.enc (#v[a0.1, a0.2.1, a0.2.2] : Forms)).toArray = v, fun c ρ w v => .pointer (some ((⟨g2, 0, none⟩ : Addr).add (0 + 0))) = v, fun c ρ w v => .agg (cForm.enc a1.1).toArray = v, fun c ρ w v => .pointer (some ((⟨g2, 0, none⟩ : Addr).add (0 + 9))) = v, fun c ρ w v => .agg (cForm.enc a1.2.1).toArray = v, fun c ρ w v => .pointer (some ((⟨g2, 0, none⟩ : Addr).add (0 + 18))) = v, fun c ρ w v => .agg (cForm.enc a1.2.2).toArray = v, fun c ρ w v => .agg (cForms.enc (#v[a1.1, a1.2.1, a1.2.2] : Forms)).toArray = v, fun c ρ w v => ∃ g3, .pointer (some ((⟨g3, 0, none⟩ : Addr).add 0)) = v ∧ (c ≤ 0 → Va ρ w 3 g3 114 (cForms.enc zForms)) ∧ (0 < c → Va ρ w 3 g3 114 (cForms.enc (#v[a0.1, a0.2.1, a0.2.2] : Forms))), fun c ρ w v => ∃ g4, .pointer (some ((⟨g4, 0, none⟩ : Addr).add 0)) = v ∧ Va ρ w 4 g4 114 (cForms.enc zForms), fun _ _ _ _ => True]) hfL hS (by kernel_rfl) rfl (wn rfl) (r_store_w (cs' := cForms.enc (#v[a0.1, a0.2.1, a0.2.2] : Forms)) hw o3 (by decide) ty114 (cForms.len _) (cForms.len _) (cForms.one _) hf rfl rfl rfl) (fun w' hΦ => ?_) hK
      obtain ⟨hw, hA, o3⟩ := hΦ
      replace o1 := o1.adv hA (by decide)
      replace o2 := o2.adv hA (by decide)
      refine ⟨_, hw, ⟨o1, o2⟩, ?_⟩
      · exact PassL.cons (fun h => h) <| PassL.cons (fun h => h) <| PassL.cons (fun h => h) <| PassL.cons (fun h => h) <| PassL.cons (fun h => h) <| PassL.cons (fun h => h) <| PassL.cons (fun h => h) <| PassL.cons (fun h => h) <| PassL.cons (fun h => h) <| PassL.cons (fun h => h) <| PassL.cons (fun h => h) <| PassL.cons (fun h => h) <| PassL.cons (fun h => h) <| PassL.cons (fun h => h) <| PassL.cons (fun _ => ⟨_, ht14, _, rfl, fun h => absurd h (by decide), fun _ => o3⟩) <| PassL.cons (fun h => by obtain ⟨_, ht, g4, h, o4⟩ := h; exact ⟨_, ht, _, h, o4.adv hA (by decide)⟩) <| PassL.here <| PassL.nil
  intro ρ w a hw hG hf hd
  obtain ⟨o1, o2⟩ := hG
  obtain ⟨_, hf, rfl⟩ := got (hd 13 (by decide) (by kernel_rfl)) hf
  obtain ⟨_, ht, g3, rfl, hx, hy⟩ := hd 14 (by decide) (by kernel_rfl)
  obtain o3 := hy (by decide)
  replace hf := hf.more ht
  obtain ⟨_, hf, ⟨g4, rfl, o4⟩⟩ := got (hd 15 (by decide) (by kernel_rfl)) hf
  refine sk_ hf (r_store_w (cs' := cForms.enc (#v[a1.1, a1.2.1, a1.2.2] : Forms)) hw o4 (by decide) ty114 (cForms.len _) (cForms.len _) (cForms.one _) hf rfl rfl rfl) fun a w hf hΦ => ?_
  obtain ⟨hw, hA, o4⟩ := hΦ
  replace o1 := o1.adv hA (by decide)
  replace o2 := o2.adv hA (by decide)
  replace o3 := o3.adv hA (by decide)
  refine c_nt <| c_seq <| c_seq <| c_region ?_
  refine s_ hf (r_assign hf rfl) fun a hf => ?_
  refine c_nt ?_
  obtain ⟨ol1, ho1, hG1⟩ := of_bind hF
  clear hF
  refine c_block (c_loop (id := 0) (fun s => spec_l01Less_l1 a0 a1 s) (fun (s2 : Int) a w => ∃ ρ, Wd w0 ρ w ∧ Fr 53 a [(5, .pointer (some ((⟨g3, 0, none⟩ : Addr).add 0))), (6, .pointer (some ((⟨g4, 0, none⟩ : Addr).add 0))), (7, vI s2)] ∧ Va ρ w 3 g3 114 (cForms.enc (#v[a0.1, a0.2.1, a0.2.2] : Forms)) ∧ Va ρ w 4 g4 114 (cForms.enc (#v[a1.1, a1.2.1, a1.2.2] : Forms))) (fun (s2 : Int) a w => ∃ ρ, Wd w0 ρ w ∧ Fr 53 a []) ho1 ⟨_, hw, hf.sub ⟨rfl, rfl, rfl, trivial⟩, o3, o4⟩ ?_ ?_)
  · rintro s2 lr a w ⟨ρ, hw, hf, o3, o4⟩ hF
    replace hF : spec_l01Less_l1 a0 a1 s2 = some lr := hF
    unfold spec_l01Less_l1 at hF
    refine c_seq <| c_seq <| c_region ?_
    refine s_ hf (r_move hf rfl) fun a hf => ?_
    refine s_ hf (r_lss hf rfl rfl) fun a hf => ?_
    refine c_nt ?_
    rcases of_ite hF with ⟨hb3, hF⟩ | ⟨hb3, hF⟩
    rotate_left
    · refine c_iff hf rfl hb3 <| c_exit <| x_then ?_
      obtain rfl := Option.some.inj hF
      exact Rnd.stops ⟨_, hw, hf.sub trivial⟩
    refine c_ift hf rfl hb3 <| c_skip <| n_then <| c_seq <| c_block <| c_seq <| c_region ?_
    refine s_ hf (r_assign hf rfl) fun a hf => ?_
    refine c_nt ?_
    obtain ⟨ol4, ho4, hG4⟩ := of_bind hF
    clear hF
    refine c_block (c_loop (id := 2) (fun s => spec_l01Less_l4 a0 a1 s2 s) (fun (s5 : Int) a w => ∃ ρ, Wd w0 ρ w ∧ Fr 53 a [(5, .pointer (some ((⟨g3, 0, none⟩ : Addr).add 0))), (6, .pointer (some ((⟨g4, 0, none⟩ : Addr).add 0))), (7, vI s2), (8, vI s5)] ∧ Va ρ w 3 g3 114 (cForms.enc (#v[a0.1, a0.2.1, a0.2.2] : Forms)) ∧ Va ρ w 4 g4 114 (cForms.enc (#v[a1.1, a1.2.1, a1.2.2] : Forms))) (fun (s5 : Int) a w => ∃ ρ, Wd w0 ρ w ∧ Fr 53 a [(5, .pointer (some ((⟨g3, 0, none⟩ : Addr).add 0))), (6, .pointer (some ((⟨g4, 0, none⟩ : Addr).add 0))), (7, vI s2)] ∧ Va ρ w 3 g3 114 (cForms.enc (#v[a0.1, a0.2.1, a0.2.2] : Forms)) ∧ Va ρ w 4 g4 114 (cForms.enc (#v[a1.1, a1.2.1, a1.2.2] : Forms))) ho4 ⟨_, hw, hf.sub ⟨rfl, rfl, rfl, rfl, trivial⟩, o3, o4⟩ ?_ ?_)
    · rintro s5 lr a w ⟨ρ, hw, hf, o3, o4⟩ hF
      replace hF : spec_l01Less_l4 a0 a1 s2 s5 = some lr := hF
      unfold spec_l01Less_l4 at hF
      refine c_seq <| c_seq <| c_region ?_
      refine s_ hf (r_move hf rfl) fun a hf => ?_
      refine s_ hf (r_lss hf rfl rfl) fun a hf => ?_
      refine c_nt ?_
      rcases of_ite hF with ⟨hb6, hF⟩ | ⟨hb6, hF⟩
      rotate_left
      · refine c_iff hf rfl hb6 <| c_exit <| x_then ?_
        obtain rfl := Option.some.inj hF
        exact Rnd.stops ⟨_, hw, hf.sub ⟨rfl, rfl, rfl, trivial⟩, o3, o4⟩
      refine c_ift hf rfl hb6 <| c_skip <| n_then <| c_seq <| c_block <| c_seq ?_
      obtain ⟨hc7, hF⟩ := of_guard hF
      obtain ⟨hc8, hF⟩ := of_guard hF
      replace hf : Fr 53 a [(5, .pointer (some ((⟨g3, 0, none⟩ : Addr).add 0))), (6, .pointer (some ((⟨g4, 0, none⟩ : Addr).add 0))), (7, vI s2), (8, vI s5)] := hf.sub ⟨rfl, rfl, rfl, rfl, trivial⟩
      refine c_drawL (h := 10) mixed (by kernel_rfl) (by kernel_rfl) (fun ρ w => Va ρ w 3 g3 114 (cForms.enc (#v[a0.1, a0.2.1, a0.2.2] : Forms)) ∧ Va ρ w 4 g4 114 (cForms.enc (#v[a1.1, a1.2.1, a1.2.2] : Forms))) ?_ [fun ρ w v => vI s2 = v, fun ρ w v => vI s5 = v, fun ρ w v => .pointer (some ((⟨g3, 0, none⟩ : Addr).add (0 + s2.toNat * 9))) = v, fun ρ w v => .pointer (some ((⟨g3, 0, none⟩ : Addr).add ((0 + s2.toNat * 9) + s5.toNat * 1))) = v, fun ρ w v => vB (vg 0 (vg zForm (#v[a0.1, a0.2.1, a0.2.2] : Forms) s2) s5) = v, fun ρ w v => vI s2 = v, fun ρ w v => vI s5 = v, fun ρ w v => .pointer (some ((⟨g4, 0, none⟩ : Addr).add (0 + s2.toNat * 9))) = v, fun ρ w v => .pointer (some ((⟨g4, 0, none⟩ : Addr).add ((0 + s2.toNat * 9) + s5.toNat * 1))) = v, fun ρ w v => vB (vg 0 (vg zForm (#v[a1.1, a1.2.1, a1.2.2] : Forms) s2) s5) = v] ?_ hw ⟨o3, o4⟩ hf ?_ ?_
      · intro ρ w ρ' w' hE hG
        obtain ⟨o3, o4⟩ := hG
        exact ⟨o3.ext hE, o4.ext hE⟩
      · exact LastsL.cons (fun _ _ _ _ _ _ h => h) <| LastsL.cons (fun _ _ _ _ _ _ h => h) <| LastsL.cons (fun _ _ _ _ _ _ h => h) <| LastsL.cons (fun _ _ _ _ _ _ h => h) <| LastsL.cons (fun _ _ _ _ _ _ h => h) <| LastsL.cons (fun _ _ _ _ _ _ h => h) <| LastsL.cons (fun _ _ _ _ _ _ h => h) <| LastsL.cons (fun _ _ _ _ _ _ h => h) <| LastsL.cons (fun _ _ _ _ _ _ h => h) <| LastsL.cons (fun _ _ _ _ _ _ h => h) <| LastsL.nil
      · refine StepsB.cons ?_ <| StepsB.cons ?_ <| StepsB.cons ?_ <| StepsB.cons ?_ <| StepsB.cons ?_ <| StepsB.cons ?_ <| StepsB.cons ?_ <| StepsB.cons ?_ <| StepsB.cons ?_ <| StepsB.cons ?_ <| StepsB.nil
        · intro ρ w a hw hG hf hd K hK
          obtain ⟨o3, o4⟩ := hG
          exact dv_ hK hw (wn rfl) (r_move hf rfl) rfl
        · intro ρ w a hw hG hf hd K hK
          obtain ⟨o3, o4⟩ := hG
          exact dv_ hK hw (wn rfl) (r_move hf rfl) rfl
        · intro ρ w a hw hG hf hd K hK
          obtain ⟨o3, o4⟩ := hG
          obtain ⟨_, hf, rfl⟩ := got (hd 0 (by kernel_rfl)) hf
          exact dv_ hK hw (wn rfl) (r_indexAddr_arr Try.underlying114 sz56 hf rfl rfl hc7.1 hc7.2) rfl
        · intro ρ w a hw hG hf hd K hK
          obtain ⟨o3, o4⟩ := hG
          obtain ⟨_, hf, rfl⟩ := got (hd 1 (by kernel_rfl)) hf
          obtain ⟨_, hf, rfl⟩ := got (hd 2 (by kernel_rfl)) hf
          exact dv_ hK hw (wn rfl) (r_indexAddr_arr Try.underlying56 sz5 hf rfl rfl hc8.1 hc8.2) rfl
        · intro ρ w a hw hG hf hd K hK
          obtain ⟨o3, o4⟩ := hG
          obtain ⟨_, hf, rfl⟩ := got (hd 3 (by kernel_rfl)) hf
          exact dv_ hK hw (wn rfl) (r_load_cell ty5 hf rfl ((o3.cl.lens (Lens.vec zForm cForm s2 hc7.1 hc7.2)).lens (Lens.vec 0 fU8 s5 hc8.1 hc8.2))) rfl
        · intro ρ w a hw hG hf hd K hK
          obtain ⟨o3, o4⟩ := hG
          exact dv_ hK hw (wn rfl) (r_move hf rfl) rfl
        · intro ρ w a hw hG hf hd K hK
          obtain ⟨o3, o4⟩ := hG
          exact dv_ hK hw (wn rfl) (r_move hf rfl) rfl
        · intro ρ w a hw hG hf hd K hK
          obtain ⟨o3, o4⟩ := hG
          obtain ⟨_, hf, rfl⟩ := got (hd 5 (by kernel_rfl)) hf
          exact dv_ hK hw (wn rfl) (r_indexAddr_arr Try.underlying114 sz56 hf rfl rfl hc7.1 hc7.2) rfl
        · intro ρ w a hw hG hf hd K hK
          obtain ⟨o3, o4⟩ := hG
          obtain ⟨_, hf, rfl⟩ := got (hd 6 (by kernel_rfl)) hf
          obtain ⟨_, hf, rfl⟩ := got (hd 7 (by kernel_rfl)) hf
          exact dv_ hK hw (wn rfl) (r_indexAddr_arr Try.underlying56 sz5 hf rfl rfl hc8.1 hc8.2) rfl
        · intro ρ w a hw hG hf hd K hK
          obtain ⟨o3, o4⟩ := hG
          obtain ⟨_, hf, rfl⟩ := got (hd 8 (by kernel_rfl)) hf
          exact dv_ hK hw (wn rfl) (r_load_cell ty5 hf rfl ((o4.cl.lens (Lens.vec zForm cForm s2 hc7.1 hc7.2)).lens (Lens.vec 0 fU8 s5 hc8.1 hc8.2))) rfl
      intro ρ w a hw hG hf hd
      obtain ⟨o3, o4⟩ := hG
      obtain ⟨_, hf, rfl⟩ := got (hd 4 (by decide)) hf
      obtain ⟨_, hf, rfl⟩ := got (hd 9 (by decide)) hf
      refine s_ hf (r_neq hf rfl rfl) fun a hf => ?_
      refine c_nt ?_
      rcases of_ite hF with ⟨hb9, hF⟩ | ⟨hb9, hF⟩
      rotate_left
      · refine c_iff hf rfl hb9 <| c_skip <| n_block <| n_then <| c_region ?_
        refine s_ hf (r_move hf rfl) fun a hf => ?_
        refine s_ hf (r_add hf rfl rfl) fun a hf => ?_
        refine s_ hf (r_assign hf rfl) fun a hf => ?_
        refine c_nil ?_
        obtain rfl := Option.some.inj hF
        exact Rnd.goes ⟨_, hw, hf.sub ⟨rfl, rfl, rfl, rfl, trivial⟩, o3, o4⟩
      refine c_ift hf rfl hb9 <| c_seq ?_
      replace hf : Fr 53 a [(5, .pointer (some ((⟨g3, 0, none⟩ : Addr).add 0))), (6, .pointer (some ((⟨g4, 0, none⟩ : Addr).add 0))), (7, vI s2), (8, vI s5)] := hf.sub ⟨rfl, rfl, rfl, rfl, trivial⟩
      refine c_drawL (h := 10) mixed (by kernel_rfl) (by kernel_rfl) (fun ρ w => Va ρ w 3 g3 114 (cForms.enc (#v[a0.1, a0.2.1, a0.2.2] : Forms)) ∧ Va ρ w 4 g4 114 (cForms.enc (#v[a1.1, a1.2.1, a1.2.2] : Forms))) ?_ [fun ρ w v => vI s2 = v, fun ρ w v => vI s5 = v, fun ρ w v => .pointer (some ((⟨g3, 0, none⟩ : Addr).add (0 + s2.toNat * 9))) = v, fun ρ w v => .pointer (some ((⟨g3, 0, none⟩ : Addr).add ((0 + s2.toNat * 9) + s5.toNat * 1))) = v, fun ρ w v => vB (vg 0 (vg zForm (#v[a0.1, a0.2.1, a0.2.2] : Forms) s2) s5) = v, fun ρ w v => vI s2 = v, fun ρ w v => vI s5 = v, fun ρ w v => .pointer (some ((⟨g4, 0, none⟩ : Addr).add (0 + s2.toNat * 9))) = v, fun ρ w v => .pointer (some ((⟨g4, 0, none⟩ : Addr).add ((0 + s2.toNat * 9) + s5.toNat * 1))) = v, fun ρ w v => vB (vg 0 (vg zForm (#v[a1.1, a1.2.1, a1.2.2] : Forms) s2) s5) = v] ?_ hw ⟨o3, o4⟩ hf ?_ ?_
      · intro ρ w ρ' w' hE hG
        obtain ⟨o3, o4⟩ := hG
        exact ⟨o3.ext hE, o4.ext hE⟩
      · exact LastsL.cons (fun _ _ _ _ _ _ h => h) <| LastsL.cons (fun _ _ _ _ _ _ h => h) <| LastsL.cons (fun _ _ _ _ _ _ h => h) <| LastsL.cons (fun _ _ _ _ _ _ h => h) <| LastsL.cons (fun _ _ _ _ _ _ h => h) <| LastsL.cons (fun _ _ _ _ _ _ h => h) <| LastsL.cons (fun _ _ _ _ _ _ h => h) <| LastsL.cons (fun _ _ _ _ _ _ h => h) <| LastsL.cons (fun _ _ _ _ _ _ h => h) <| LastsL.cons (fun _ _ _ _ _ _ h => h) <| LastsL.nil
      · refine StepsB.cons ?_ <| StepsB.cons ?_ <| StepsB.cons ?_ <| StepsB.cons ?_ <| StepsB.cons ?_ <| StepsB.cons ?_ <| StepsB.cons ?_ <| StepsB.cons ?_ <| StepsB.cons ?_ <| StepsB.cons ?_ <| StepsB.nil
        · intro ρ w a hw hG hf hd K hK
          obtain ⟨o3, o4⟩ := hG
          exact dv_ hK hw (wn rfl) (r_move hf rfl) rfl
        · intro ρ w a hw hG hf hd K hK
          obtain ⟨o3, o4⟩ := hG
          exact dv_ hK hw (wn rfl) (r_move hf rfl) rfl
        · intro ρ w a hw hG hf hd K hK
          obtain ⟨o3, o4⟩ := hG
          obtain ⟨_, hf, rfl⟩ := got (hd 0 (by kernel_rfl)) hf
          exact dv_ hK hw (wn rfl) (r_indexAddr_arr Try.underlying114 sz56 hf rfl rfl hc7.1 hc7.2) rfl
        · intro ρ w a hw hG hf hd K hK
          obtain ⟨o3, o4⟩ := hG
          obtain ⟨_, hf, rfl⟩ := got (hd 1 (by kernel_rfl)) hf
          obtain ⟨_, hf, rfl⟩ := got (hd 2 (by kernel_rfl)) hf
          exact dv_ hK hw (wn rfl) (r_indexAddr_arr Try.underlying56 sz5 hf rfl rfl hc8.1 hc8.2) rfl
        · intro ρ w a hw hG hf hd K hK
          obtain ⟨o3, o4⟩ := hG
          obtain ⟨_, hf, rfl⟩ := got (hd 3 (by kernel_rfl)) hf
          exact dv_ hK hw (wn rfl) (r_load_cell ty5 hf rfl ((o3.cl.lens (Lens.vec zForm cForm s2 hc7.1 hc7.2)).lens (Lens.vec 0 fU8 s5 hc8.1 hc8.2))) rfl
        · intro ρ w a hw hG hf hd K hK
          obtain ⟨o3, o4⟩ := hG
          exact dv_ hK hw (wn rfl) (r_move hf rfl) rfl
        · intro ρ w a hw hG hf hd K hK
          obtain ⟨o3, o4⟩ := hG
          exact dv_ hK hw (wn rfl) (r_move hf rfl) rfl
        · intro ρ w a hw hG hf hd K hK
          obtain ⟨o3, o4⟩ := hG
          obtain ⟨_, hf, rfl⟩ := got (hd 5 (by kernel_rfl)) hf
          exact dv_ hK hw (wn rfl) (r_indexAddr_arr Try.underlying114 sz56 hf rfl rfl hc7.1 hc7.2) rfl
        · intro ρ w a hw hG hf hd K hK
          obtain ⟨o3, o4⟩ := hG
          obtain ⟨_, hf, rfl⟩ := got (hd 6 (by kernel_rfl)) hf
          obtain ⟨_, hf, rfl⟩ := got (hd 7 (by kernel_rfl)) hf
          exact dv_ hK hw (wn rfl) (r_indexAddr_arr Try.underlying56 sz5 hf rfl rfl hc8.1 hc8.2) rfl
        · intro ρ w a hw hG hf hd K hK
          obtain ⟨o3, o4⟩ := hG
          obtain ⟨_, hf, rfl⟩ := got (hd 8 (by kernel_rfl)) hf
          exact dv_ hK hw (wn rfl) (r_load_cell ty5 hf rfl ((o4.cl.lens (Lens.vec zForm cForm s2 hc7.1 hc7.2)).lens (Lens.vec 0 fU8 s5 hc8.1 hc8.2))) rfl
      intro ρ w a hw hG hf hd
      obtain ⟨o3, o4⟩ := hG
      obtain ⟨_, hf, rfl⟩ := got (hd 4 (by decide)) hf
      obtain ⟨_, hf, rfl⟩ := got (hd 9 (by decide)) hf
      refine s_ hf (r_lss hf rfl rfl) fun a hf => ?_
      refine s_ hf (r_assign hf rfl) fun a hf => ?_
      refine c_nt <| c_retc ?_
      obtain rfl := Option.some.inj hF
      refine r_block <| r_then ?_
      refine Rnd.rets fun ho => ?_
      subst ho
      have hF := hG4
      dsimp only at hF
      obtain rfl := Option.some.inj hF
      refine r_block <| r_block <| r_then ?_
      refine Rnd.rets fun ho => ?_
      subst ho
      have hF := hG1
      dsimp only at hF
      obtain rfl := Option.some.inj hF
      refine r_block <| r_then <| c_ret hf (res_tmp Try.results74 hf rfl) ?_
      exact ⟨_, rfl, hw.below, rfl⟩
    rintro s5 a w hs ⟨ρ, hw, hf, o3, o4⟩
    subst hs
    have hF := hG4
    dsimp only at hF
    refine x_block <| n_block <| n_then <| c_region ?_
    refine s_ hf (r_move hf rfl) fun a hf => ?_
    refine s_ hf (r_add hf rfl rfl) fun a hf => ?_
    refine s_ hf (r_assign hf rfl) fun a hf => ?_
    refine c_nil ?_
    obtain rfl := Option.some.inj hF
    exact Rnd.goes ⟨_, hw, hf.sub ⟨rfl, rfl, rfl, trivial⟩, o3, o4⟩
  rintro s2 a w hs ⟨ρ, hw, hf⟩
  subst hs
  have hF := hG1
  dsimp only at hF
  refine x_block <| n_then <| c_seq <| c_region ?_
  refine s_ hf (r_assign hf rfl) fun a hf => ?_
  refine c_nt <| c_retc ?_
  obtain rfl := Option.some.inj hF
  refine c_ret hf (res_tmp Try.results74 hf rfl) ?_
  exact ⟨_, rfl, hw.below, rfl⟩
/-! f119 -/
noncomputable def cmp_Or_119_l1 (a0 : List Int) (s2 : Int) : Option (LR Int Int) :=
  if (decide (s2 < (a0.length : Int))) = true then (if 0 ≤ s2 ∧ s2 < (a0.length : Int) then (if (decide ((gl 0 a0 s2) ≠ 0)) = true then (some (.ret (gl 0 a0 s2))) else (some (.next (w64 (s2 + 1))))) else none) else (some (.stop s2))
noncomputable def cmp_Or_119 (a0 : List Int) : Option Int :=
  (iter (fun s => cmp_Or_119_l1 a0 s) 0).bind fun o => match o with | .stop s2 => (some (0)) | .ret r => some r | .next _ => none
theorem cmp_Or_119_ok {w0 : World} {a0 : List Int} {va0 : Value} (h0 : Ro (kf fI64) w0 va0 a0) {r : Int} (hF : cmp_Or_119 a0 = some r) :
    Calls Try.prog 119 [va0].toArray w0 fun e w => ∃ v, e = .returned v ∧ Below w0.heap.size w0 w ∧ .int .i64 r = v := by
  refine calls_of (k := 18) Try.func119 rfl rfl (Nat.le_of_ble_eq_true rfl) fun a hf => ?_
  replace hf : Fr 18 a [(0, va0)] := hf
  refine c_start fun w ρ hw => ?_
  unfold cmp_Or_119 at hF
  refine c_seq <| c_region ?_
  refine s_ hf (r_assign hf rfl) fun a hf => ?_
  refine c_nt <| c_seq <| c_region ?_
  refine s_ hf (r_assign hf rfl) fun a hf => ?_
  refine c_nt <| c_seq <| c_seq <| c_region ?_
  refine s_ hf (r_move hf rfl) fun a hf => ?_
  refine s_ hf (r_len Try.underlying147 (h0.now hw) hf rfl) fun a hf => ?_
  refine s_ hf (r_move hf rfl) fun a hf => ?_
  refine c_nt ?_
  obtain ⟨ol1, ho1, hG1⟩ := of_bind hF
  clear hF
  refine c_block (c_loop (id := 0) (fun s => cmp_Or_119_l1 a0 s) (fun (s2 : Int) a w => ∃ ρ, Wd w0 ρ w ∧ Fr 18 a [(3, vI 0), (6, va0), (7, vI (a0.length : Int)), (8, vI s2)]) (fun (s2 : Int) a w => ∃ ρ, Wd w0 ρ w ∧ Fr 18 a [(3, vI 0)]) ho1 ⟨_, hw, hf.sub ⟨rfl, rfl, rfl, rfl, trivial⟩⟩ ?_ ?_)
  · rintro s2 lr a w ⟨ρ, hw, hf⟩ hF
    replace hF : cmp_Or_119_l1 a0 s2 = some lr := hF
    unfold cmp_Or_119_l1 at hF
    refine c_seq <| c_region ?_
    refine s_ hf (r_lss hf rfl rfl) fun a hf => ?_
    refine c_nt <| c_seq ?_
    rcases of_ite hF with ⟨hb3, hF⟩ | ⟨hb3, hF⟩
    rotate_left
    · refine c_iff hf rfl hb3 <| c_exit <| x_then ?_
      obtain rfl := Option.some.inj hF
      exact Rnd.stops ⟨_, hw, hf.sub ⟨rfl, trivial⟩⟩
    refine c_ift hf rfl hb3 <| c_skip <| n_then <| c_seq <| c_block <| c_seq <| c_region ?_
    obtain ⟨hc4, hF⟩ := of_guard hF
    obtain ⟨ad5, c5, he5, hl5⟩ := Ro.el fI64 h0 0 hc4.1 hc4.2
    refine s_ hf (r_idx Try.underlying147 sz3 hf rfl ⟨_, he5⟩ rfl hc4.1 hc4.2) fun a hf => ?_
    refine s_ hf (r_load_cell ty3 hf rfl (hl5.below hw.below)) fun a hf => ?_
    refine s_ hf (r_assign hf rfl) fun a hf => ?_
    refine c_nt <| c_seq <| c_region ?_
    refine s_ hf (r_move hf rfl) fun a hf => ?_
    refine s_ hf (r_move hf rfl) fun a hf => ?_
    refine s_ hf (r_neq hf rfl rfl) fun a hf => ?_
    refine c_nt ?_
    rcases of_ite hF with ⟨hb6, hF⟩ | ⟨hb6, hF⟩
    rotate_left
    · refine c_iff hf rfl hb6 <| c_skip <| n_block <| n_then <| c_region ?_
      refine s_ hf (r_add hf rfl rfl) fun a hf => ?_
      refine s_ hf (r_move hf rfl) fun a hf => ?_
      refine c_nil ?_
      obtain rfl := Option.some.inj hF
      exact Rnd.goes ⟨_, hw, hf.sub ⟨rfl, rfl, rfl, rfl, trivial⟩⟩
    refine c_ift hf rfl hb6 <| c_seq <| c_region ?_
    refine s_ hf (r_move hf rfl) fun a hf => ?_
    refine s_ hf (r_assign hf rfl) fun a hf => ?_
    refine c_nt <| c_retc ?_
    obtain rfl := Option.some.inj hF
    refine r_block <| r_then ?_
    refine Rnd.rets fun ho => ?_
    subst ho
    have hF := hG1
    dsimp only at hF
    obtain rfl := Option.some.inj hF
    refine r_block <| r_then <| c_ret hf (res_tmp Try.results119 hf rfl) ?_
    exact ⟨_, rfl, hw.below, rfl⟩
  rintro s2 a w hs ⟨ρ, hw, hf⟩
  subst hs
  have hF := hG1
  dsimp only at hF
  refine x_block <| n_then <| c_seq <| c_region ?_
  refine s_ hf (r_move hf rfl) fun a hf => ?_
  refine s_ hf (r_assign hf rfl) fun a hf => ?_
  refine c_nt <| c_retc ?_
  obtain rfl := Option.some.inj hF
  refine c_ret hf (res_tmp Try.results119 hf rfl) ?_
  exact ⟨_, rfl, hw.below, rfl⟩
/-! f166 -/
noncomputable def cmp_isNaN_166 (a0 : UInt8) : Option Bool :=
  some (decide ((a0.toNat : Int) ≠ (a0.toNat : Int)))
theorem cmp_isNaN_166_ok {w0 : World} {a0 : UInt8}   {r : Bool} (hF : cmp_isNaN_166 a0 = some r) :
    Calls Try.prog 166 [vB a0].toArray w0 fun e w => ∃ v, e = .returned v ∧ Below w0.heap.size w0 w ∧ .bool r = v := by
  refine calls_of (k := 6) Try.func166 rfl rfl (Nat.le_of_ble_eq_true rfl) fun a hf => ?_
  replace hf : Fr 6 a [(0, vB a0)] := hf
  refine c_start fun w ρ hw => ?_
  unfold cmp_isNaN_166 at hF
  refine c_seq <| c_region ?_
  refine s_ hf (r_assign hf rfl) fun a hf => ?_
  refine c_nt <| c_seq <| c_region ?_
  refine s_ hf (r_move hf rfl) fun a hf => ?_
  refine s_ hf (r_move hf rfl) fun a hf => ?_
  refine s_ hf (r_neq hf rfl rfl) fun a hf => ?_
  refine s_ hf (r_assign hf rfl) fun a hf => ?_
  refine c_nt <| c_retc ?_
  obtain rfl := Option.some.inj hF
  refine c_ret hf (res_tmp Try.results166 hf rfl) ?_
  exact ⟨_, rfl, hw.below, rfl⟩
/-! f155 -/
noncomputable def cmp_Compare_155 (a0 : UInt8) (a1 : UInt8) : Option Int :=
  (cmp_isNaN_166 a0).bind fun x1 => (cmp_isNaN_166 a1).bind fun x3 => if x1 = true then (if x3 = true then (some (0)) else (some ((-1)))) else (if x3 = true then (some (1)) else (if (decide ((a0.toNat : Int) < (a1.toNat : Int))) = true then (some ((-1))) else (if (decide ((a1.toNat : Int) < (a0.toNat : Int))) = true then (some (1)) else (some (0)))))
theorem cmp_Compare_155_ok {w0 : World} {a0 : UInt8} {a1 : UInt8}   {r : Int} (hF : cmp_Compare_155 a0 a1 = some r) :
    Calls Try.prog 155 [vB a0, vB a1].toArray w0 fun e w => ∃ v, e = .returned v ∧ Below w0.heap.size w0 w ∧ .int .i64 r = v := by
  refine calls_of (k := 20) Try.func155 rfl rfl (Nat.le_of_ble_eq_true rfl) fun a hf => ?_
  replace hf : Fr 20 a [(0, vB a0), (1, vB a1)] := hf
  refine c_start fun w ρ hw => ?_
  unfold cmp_Compare_155 at hF
  refine c_seq <| c_region ?_
  refine s_ hf (r_assign hf rfl) fun a hf => ?_
  refine c_nt <| c_seq <| c_region ?_
  refine s_ hf (r_move hf rfl) fun a hf => ?_
  obtain ⟨x1, hx2, hF⟩ := of_bind hF
  refine st_fn 1 hw hf rfl rfl (by decide) (r_fn en166 hf rfl) (cmp_isNaN_166_ok  hx2) fun a v w ρ hf hw hE hN hΦ => ?_
  obtain rfl := hΦ
  refine s_ hf (r_assign hf rfl) fun a hf => ?_
  refine c_nt <| c_seq <| c_region ?_
  refine s_ hf (r_move hf rfl) fun a hf => ?_
  obtain ⟨x3, hx4, hF⟩ := of_bind hF
  refine st_fn 2 hw hf rfl rfl (by decide) (r_fn en166 hf rfl) (cmp_isNaN_166_ok  hx4) fun a v w ρ hf hw hE hN hΦ => ?_
  obtain rfl := hΦ
  refine s_ hf (r_assign hf rfl) fun a hf => ?_
  refine c_nt <| c_seq <| c_seq <| c_region ?_
  refine s_ hf (r_move hf rfl) fun a hf => ?_
  refine c_nt ?_
  rcases of_ite hF with ⟨hb5, hF⟩ | ⟨hb5, hF⟩
  · refine c_ift hf rfl hb5 <| c_seq <| c_seq <| c_region ?_
    refine s_ hf (r_move hf rfl) fun a hf => ?_
    refine c_nt ?_
    rcases of_ite hF with ⟨hb6, hF⟩ | ⟨hb6, hF⟩
    · refine c_ift hf rfl hb6 <| c_seq <| c_region ?_
      refine s_ hf (r_assign hf rfl) fun a hf => ?_
      refine c_nt <| c_retc ?_
      obtain rfl := Option.some.inj hF
      refine r_then <| r_then <| c_ret hf (res_tmp Try.results155 hf rfl) ?_
      exact ⟨_, rfl, hw.below, rfl⟩
    refine c_iff hf rfl hb6 <| c_skip <| n_then <| c_seq <| c_region ?_
    refine s_ hf (r_assign hf rfl) fun a hf => ?_
    refine c_nt <| c_retc ?_
    obtain rfl := Option.some.inj hF
    refine r_then <| c_ret hf (res_tmp Try.results155 hf rfl) ?_
    exact ⟨_, rfl, hw.below, rfl⟩
  refine c_iff hf rfl hb5 <| c_skip <| n_then <| c_seq <| c_seq <| c_region ?_
  refine s_ hf (r_move hf rfl) fun a hf => ?_
  refine c_nt ?_
  rcases of_ite hF with ⟨hb7, hF⟩ | ⟨hb7, hF⟩
  · refine c_ift hf rfl hb7 <| c_seq <| c_region ?_
    refine s_ hf (r_assign hf rfl) fun a hf => ?_
    refine c_nt <| c_retc ?_
    obtain rfl := Option.some.inj hF
    refine r_then <| c_ret hf (res_tmp Try.results155 hf rfl) ?_
    exact ⟨_, rfl, hw.below, rfl⟩
  refine c_iff hf rfl hb7 <| c_skip <| n_then <| c_seq <| c_seq <| c_region ?_
  refine s_ hf (r_move hf rfl) fun a hf => ?_
  refine s_ hf (r_move hf rfl) fun a hf => ?_
  refine s_ hf (r_lss hf rfl rfl) fun a hf => ?_
  refine c_nt ?_
  rcases of_ite hF with ⟨hb8, hF⟩ | ⟨hb8, hF⟩
  · refine c_ift hf rfl hb8 <| c_seq <| c_region ?_
    refine s_ hf (r_assign hf rfl) fun a hf => ?_
    refine c_nt <| c_retc ?_
    obtain rfl := Option.some.inj hF
    refine r_then <| c_ret hf (res_tmp Try.results155 hf rfl) ?_
    exact ⟨_, rfl, hw.below, rfl⟩
  refine c_iff hf rfl hb8 <| c_skip <| n_then <| c_seq <| c_seq <| c_region ?_
  refine s_ hf (r_move hf rfl) fun a hf => ?_
  refine s_ hf (r_move hf rfl) fun a hf => ?_
  refine s_ hf (r_gtr hf rfl rfl) fun a hf => ?_
  refine c_nt ?_
  rcases of_ite hF with ⟨hb9, hF⟩ | ⟨hb9, hF⟩
  · refine c_ift hf rfl hb9 <| c_seq <| c_region ?_
    refine s_ hf (r_assign hf rfl) fun a hf => ?_
    refine c_nt <| c_retc ?_
    obtain rfl := Option.some.inj hF
    refine r_then <| c_ret hf (res_tmp Try.results155 hf rfl) ?_
    exact ⟨_, rfl, hw.below, rfl⟩
  refine c_iff hf rfl hb9 <| c_skip <| n_then <| c_seq <| c_region ?_
  refine s_ hf (r_assign hf rfl) fun a hf => ?_
  refine c_nt <| c_retc ?_
  obtain rfl := Option.some.inj hF
  refine c_ret hf (res_tmp Try.results155 hf rfl) ?_
  exact ⟨_, rfl, hw.below, rfl⟩
/-! f120 -/
noncomputable def slices_Compare_120_l1 (a0 : List UInt8) (a1 : List UInt8) (s2 : Int) : Option (LR Int Int) :=
  if (decide (s2 < (a0.length : Int))) = true then (if 0 ≤ s2 ∧ s2 < (a0.length : Int) then (if (decide ((a1.length : Int) ≤ s2)) = true then (some (.ret 1)) else (if 0 ≤ s2 ∧ s2 < (a1.length : Int) then ((cmp_Compare_155 (gl 0 a0 s2) (gl 0 a1 s2)).bind fun x9 => if (decide (x9 ≠ 0)) = true then (some (.ret x9)) else (some (.next (w64 (s2 + 1))))) else none)) else none) else (some (.stop s2))
noncomputable def slices_Compare_120 (a0 : List UInt8) (a1 : List UInt8) : Option Int :=
  (iter (fun s => slices_Compare_120_l1 a0 a1 s) 0).bind fun o => match o with | .stop s2 => (if (decide ((a0.length : Int) < (a1.length : Int))) = true then (some ((-1))) else (some (0))) | .ret r => some r | .next _ => none
theorem slices_Compare_120_ok {w0 : World} {a0 : List UInt8} {a1 : List UInt8} {va0 : Value} {va1 : Value} (h0 : Ro (kf fU8) w0 va0 a0) (h1 : Ro (kf fU8) w0 va1 a1) {r : Int} (hF : slices_Compare_120 a0 a1 = some r) :
    Calls Try.prog 120 [va0, va1].toArray w0 fun e w => ∃ v, e = .returned v ∧ Below w0.heap.size w0 w ∧ .int .i64 r = v := by
  refine calls_of (k := 36) Try.func120 rfl rfl (Nat.le_of_ble_eq_true rfl) fun a hf => ?_
  replace hf : Fr 36 a [(0, va0), (1, va1)] := hf
  refine c_start fun w ρ hw => ?_
  unfold slices_Compare_120 at hF
  refine c_seq <| c_region ?_
  refine s_ hf (r_assign hf rfl) fun a hf => ?_
  refine c_nt <| c_seq <| c_seq <| c_region ?_
  refine s_ hf (r_move hf rfl) fun a hf => ?_
  refine s_ hf (r_len Try.underlying122 (h0.now hw) hf rfl) fun a hf => ?_
  refine s_ hf (r_move hf rfl) fun a hf => ?_
  refine c_nt ?_
  obtain ⟨ol1, ho1, hG1⟩ := of_bind hF
  clear hF
  refine c_block (c_loop (id := 0) (fun s => slices_Compare_120_l1 a0 a1 s) (fun (s2 : Int) a w => ∃ ρ, Wd w0 ρ w ∧ Fr 36 a [(0, va0), (1, va1), (9, va0), (10, vI (a0.length : Int)), (11, vI s2)]) (fun (s2 : Int) a w => ∃ ρ, Wd w0 ρ w ∧ Fr 36 a [(0, va0), (1, va1)]) ho1 ⟨_, hw, hf.sub ⟨rfl, rfl, rfl, rfl, rfl, trivial⟩⟩ ?_ ?_)
  · rintro s2 lr a w ⟨ρ, hw, hf⟩ hF
    replace hF : slices_Compare_120_l1 a0 a1 s2 = some lr := hF
    unfold slices_Compare_120_l1 at hF
    refine c_seq <| c_region ?_
    refine s_ hf (r_lss hf rfl rfl) fun a hf => ?_
    refine c_nt <| c_seq ?_
    rcases of_ite hF with ⟨hb3, hF⟩ | ⟨hb3, hF⟩
    rotate_left
    · refine c_iff hf rfl hb3 <| c_exit <| x_then ?_
      obtain rfl := Option.some.inj hF
      exact Rnd.stops ⟨_, hw, hf.sub ⟨rfl, rfl, trivial⟩⟩
    refine c_ift hf rfl hb3 <| c_skip <| n_then <| c_seq <| c_block <| c_seq <| c_region ?_
    refine s_ hf (r_move hf rfl) fun a hf => ?_
    obtain ⟨hc4, hF⟩ := of_guard hF
    obtain ⟨ad5, c5, he5, hl5⟩ := Ro.el fU8 h0 0 hc4.1 hc4.2
    refine s_ hf (r_idx Try.underlying122 sz5 hf rfl ⟨_, he5⟩ rfl hc4.1 hc4.2) fun a hf => ?_
    refine s_ hf (r_load_cell ty5 hf rfl (hl5.below hw.below)) fun a hf => ?_
    refine s_ hf (r_assign hf rfl) fun a hf => ?_
    refine s_ hf (r_assign hf rfl) fun a hf => ?_
    refine c_nt <| c_seq <| c_seq <| c_region ?_
    refine s_ hf (r_move hf rfl) fun a hf => ?_
    refine s_ hf (r_move hf rfl) fun a hf => ?_
    refine s_ hf (r_len Try.underlying122 (h1.now hw) hf rfl) fun a hf => ?_
    refine s_ hf (r_geq hf rfl rfl) fun a hf => ?_
    refine c_nt ?_
    rcases of_ite hF with ⟨hb6, hF⟩ | ⟨hb6, hF⟩
    · refine c_ift hf rfl hb6 <| c_seq <| c_region ?_
      refine s_ hf (r_assign hf rfl) fun a hf => ?_
      refine c_nt <| c_retc ?_
      obtain rfl := Option.some.inj hF
      refine r_then <| r_block <| r_then ?_
      refine Rnd.rets fun ho => ?_
      subst ho
      have hF := hG1
      dsimp only at hF
      obtain rfl := Option.some.inj hF
      refine r_block <| r_then <| c_ret hf (res_tmp Try.results120 hf rfl) ?_
      exact ⟨_, rfl, hw.below, rfl⟩
    refine c_iff hf rfl hb6 <| c_skip <| n_then <| c_seq <| c_region ?_
    refine s_ hf (r_move hf rfl) fun a hf => ?_
    refine s_ hf (r_move hf rfl) fun a hf => ?_
    obtain ⟨hc7, hF⟩ := of_guard hF
    obtain ⟨ad8, c8, he8, hl8⟩ := Ro.el fU8 h1 0 hc7.1 hc7.2
    refine s_ hf (r_idx Try.underlying122 sz5 hf rfl ⟨_, he8⟩ rfl hc7.1 hc7.2) fun a hf => ?_
    refine s_ hf (r_load_cell ty5 hf rfl (hl8.below hw.below)) fun a hf => ?_
    refine s_ hf (r_assign hf rfl) fun a hf => ?_
    refine c_nt <| c_seq <| c_region ?_
    refine s_ hf (r_move hf rfl) fun a hf => ?_
    refine s_ hf (r_move hf rfl) fun a hf => ?_
    obtain ⟨x9, hx10, hF⟩ := of_bind hF
    refine st_fn 1 hw hf rfl rfl (by decide) (r_fn en155 hf rfl) (cmp_Compare_155_ok  hx10) fun a v w ρ hf hw hE hN hΦ => ?_
    obtain rfl := hΦ
    refine s_ hf (r_assign hf rfl) fun a hf => ?_
    refine c_nt <| c_seq <| c_region ?_
    refine s_ hf (r_move hf rfl) fun a hf => ?_
    refine s_ hf (r_neq hf rfl rfl) fun a hf => ?_
    refine c_nt ?_
    rcases of_ite hF with ⟨hb11, hF⟩ | ⟨hb11, hF⟩
    rotate_left
    · refine c_iff hf rfl hb11 <| c_skip <| n_block <| n_then <| c_region ?_
      refine s_ hf (r_add hf rfl rfl) fun a hf => ?_
      refine s_ hf (r_move hf rfl) fun a hf => ?_
      refine c_nil ?_
      obtain rfl := Option.some.inj hF
      exact Rnd.goes ⟨_, hw, hf.sub ⟨rfl, rfl, rfl, rfl, rfl, trivial⟩⟩
    refine c_ift hf rfl hb11 <| c_seq <| c_region ?_
    refine s_ hf (r_move hf rfl) fun a hf => ?_
    refine s_ hf (r_assign hf rfl) fun a hf => ?_
    refine c_nt <| c_retc ?_
    obtain rfl := Option.some.inj hF
    refine r_block <| r_then ?_
    refine Rnd.rets fun ho => ?_
    subst ho
    have hF := hG1
    dsimp only at hF
    obtain rfl := Option.some.inj hF
    refine r_block <| r_then <| c_ret hf (res_tmp Try.results120 hf rfl) ?_
    exact ⟨_, rfl, hw.below, rfl⟩
  rintro s2 a w hs ⟨ρ, hw, hf⟩
  subst hs
  have hF := hG1
  dsimp only at hF
  refine x_block <| n_then <| c_seq <| c_seq <| c_region ?_
  refine s_ hf (r_move hf rfl) fun a hf => ?_
  refine s_ hf (r_len Try.underlying122 (h0.now hw) hf rfl) fun a hf => ?_
  refine s_ hf (r_move hf rfl) fun a hf => ?_
  refine s_ hf (r_len Try.underlying122 (h1.now hw) hf rfl) fun a hf => ?_
  refine s_ hf (r_lss hf rfl rfl) fun a hf => ?_
  refine c_nt ?_
  rcases of_ite hF with ⟨hb12, hF⟩ | ⟨hb12, hF⟩
  · refine c_ift hf rfl hb12 <| c_seq <| c_region ?_
    refine s_ hf (r_assign hf rfl) fun a hf => ?_
    refine c_nt <| c_retc ?_
    obtain rfl := Option.some.inj hF
    refine r_then <| c_ret hf (res_tmp Try.results120 hf rfl) ?_
    exact ⟨_, rfl, hw.below, rfl⟩
  refine c_iff hf rfl hb12 <| c_skip <| n_then <| c_seq <| c_region ?_
  refine s_ hf (r_assign hf rfl) fun a hf => ?_
  refine c_nt <| c_retc ?_
  obtain rfl := Option.some.inj hF
  refine c_ret hf (res_tmp Try.results120 hf rfl) ?_
  exact ⟨_, rfl, hw.below, rfl⟩
/-! f82 -/
noncomputable def impl_compareProducts (a0 : Prod) (a1 : Prod) : Option Int :=
  (slices_Compare_120 a0.1.toList a1.1.toList).bind fun x1 => (slices_Compare_120 a0.2.1.toList a1.2.1.toList).bind fun x3 => (slices_Compare_120 a0.2.2.toList a1.2.2.toList).bind fun x5 => (cmp_Or_119 ([x1, x3, x5])).bind fun x7 => some (x7)
theorem impl_compareProducts_ok {w0 : World} {a0 : Prod} {a1 : Prod}   {r : Int} (hF : impl_compareProducts a0 a1 = some r) :
    Calls Try.prog 82 [.agg (cProd.enc a0).toArray, .agg (cProd.enc a1).toArray].toArray w0 fun e w => ∃ v, e = .returned v ∧ Below w0.heap.size w0 w ∧ .int .i64 r = v := by
  refine calls_of (k := 22) Try.func82 rfl rfl (Nat.le_of_ble_eq_true rfl) fun a hf => ?_
  replace hf : Fr 22 a [(0, .agg (cProd.enc a0).toArray), (1, .agg (cProd.enc a1).toArray)] := hf
  refine c_start fun w ρ hw => ?_
  unfold impl_compareProducts at hF
  refine c_seq <| c_region ?_
  refine sx_ hf (r_box (cs := cProd.enc a0) 1 hw hf rfl rfl) fun a v w hf hΦ => ?_
  obtain ⟨g1, ρ, rfl, hw, hE, o1⟩ := hΦ
  refine sx_ hf (r_box (cs := cProd.enc a1) 2 hw hf rfl rfl) fun a v w hf hΦ => ?_
  obtain ⟨g2, ρ, rfl, hw, hE, o2⟩ := hΦ
  replace o1 := o1.ext hE
  refine s_ hf (r_assign hf rfl) fun a hf => ?_
  refine c_nt <| c_seq ?_
  obtain ⟨x1, hx2, hF⟩ := of_bind hF
  obtain ⟨x3, hx4, hF⟩ := of_bind hF
  replace hf : Fr 22 a [(2, .pointer (some ((⟨g1, 0, none⟩ : Addr).add 0))), (3, .pointer (some ((⟨g2, 0, none⟩ : Addr).add 0)))] := hf.sub ⟨rfl, rfl, trivial⟩
  refine c_drawL (h := 14) mixed (by kernel_rfl) (by kernel_rfl) (fun ρ w => Va ρ w 1 g1 58 (cProd.enc a0) ∧ Va ρ w 2 g2 58 (cProd.enc a1)) ?_ [fun ρ w v => .pointer (some ((⟨g1, 0, none⟩ : Addr).add (0 + 0))) = v, fun ρ w v => (.slice (some ((⟨g1, 0, none⟩ : Addr).add (0 + 0))) 9 9) = v ∧ Ro (kf fU8) w (.slice (some ((⟨g1, 0, none⟩ : Addr).add (0 + 0))) 9 9) a0.1.toList, fun ρ w v => .pointer (some ((⟨g2, 0, none⟩ : Addr).add (0 + 0))) = v, fun ρ w v => (.slice (some ((⟨g2, 0, none⟩ : Addr).add (0 + 0))) 9 9) = v ∧ Ro (kf fU8) w (.slice (some ((⟨g2, 0, none⟩ : Addr).add (0 + 0))) 9 9) a1.1.toList, fun ρ w v => vI x1 = v, fun ρ w v => .pointer (some ((⟨g1, 0, none⟩ : Addr).add (0 + 9))) = v, fun ρ w v => (.slice (some ((⟨g1, 0, none⟩ : Addr).add (0 + 9))) 9 9) = v ∧ Ro (kf fU8) w (.slice (some ((⟨g1, 0, none⟩ : Addr).add (0 + 9))) 9 9) a0.2.1.toList, fun ρ w v => .pointer (some ((⟨g2, 0, none⟩ : Addr).add (0 + 9))) = v, fun ρ w v => (.slice (some ((⟨g2, 0, none⟩ : Addr).add (0 + 9))) 9 9) = v ∧ Ro (kf fU8) w (.slice (some ((⟨g2, 0, none⟩ : Addr).add (0 + 9))) 9 9) a1.2.1.toList, fun ρ w v => vI x3 = v, fun ρ w v => .pointer (some ((⟨g1, 0, none⟩ : Addr).add (0 + 18))) = v, fun ρ w v => (.slice (some ((⟨g1, 0, none⟩ : Addr).add (0 + 18))) 9 9) = v ∧ Ro (kf fU8) w (.slice (some ((⟨g1, 0, none⟩ : Addr).add (0 + 18))) 9 9) a0.2.2.toList, fun ρ w v => .pointer (some ((⟨g2, 0, none⟩ : Addr).add (0 + 18))) = v, fun ρ w v => (.slice (some ((⟨g2, 0, none⟩ : Addr).add (0 + 18))) 9 9) = v ∧ Ro (kf fU8) w (.slice (some ((⟨g2, 0, none⟩ : Addr).add (0 + 18))) 9 9) a1.2.2.toList] ?_ hw ⟨o1, o2⟩ hf ?_ ?_
  · intro ρ w ρ' w' hE hG
    obtain ⟨o1, o2⟩ := hG
    exact ⟨o1.ext hE, o2.ext hE⟩
  · exact LastsL.cons (fun _ _ _ _ _ _ h => h) <| LastsL.cons (fun _ _ _ _ _ hE h => by obtain ⟨h, o3⟩ := h; exact ⟨h, o3.ext hE⟩) <| LastsL.cons (fun _ _ _ _ _ _ h => h) <| LastsL.cons (fun _ _ _ _ _ hE h => by obtain ⟨h, o4⟩ := h; exact ⟨h, o4.ext hE⟩) <| LastsL.cons (fun _ _ _ _ _ _ h => h) <| LastsL.cons (fun _ _ _ _ _ _ h => h) <| LastsL.cons (fun _ _ _ _ _ hE h => by obtain ⟨h, o6⟩ := h; exact ⟨h, o6.ext hE⟩) <| LastsL.cons (fun _ _ _ _ _ _ h => h) <| LastsL.cons (fun _ _ _ _ _ hE h => by obtain ⟨h, o7⟩ := h; exact ⟨h, o7.ext hE⟩) <| LastsL.cons (fun _ _ _ _ _ _ h => h) <| LastsL.cons (fun _ _ _ _ _ _ h => h) <| LastsL.cons (fun _ _ _ _ _ hE h => by obtain ⟨h, o9⟩ := h; exact ⟨h, o9.ext hE⟩) <| LastsL.cons (fun _ _ _ _ _ _ h => h) <| LastsL.cons (fun _ _ _ _ _ hE h => by obtain ⟨h, o10⟩ := h; exact ⟨h, o10.ext hE⟩) <| LastsL.nil
  · refine StepsB.cons ?_ <| StepsB.cons ?_ <| StepsB.cons ?_ <| StepsB.cons ?_ <| StepsB.cons ?_ <| StepsB.cons ?_ <| StepsB.cons ?_ <| StepsB.cons ?_ <| StepsB.cons ?_ <| StepsB.cons ?_ <| StepsB.cons ?_ <| StepsB.cons ?_ <| StepsB.cons ?_ <| StepsB.cons ?_ <| StepsB.nil
    · intro ρ w a hw hG hf hd K hK
      obtain ⟨o1, o2⟩ := hG
      exact dv_ hK hw (wn rfl) (r_fa fa58_0 hf rfl) rfl
    · intro ρ w a hw hG hf hd K hK
      obtain ⟨o1, o2⟩ := hG
      obtain ⟨_, hf, rfl⟩ := got (hd 0 (by kernel_rfl)) hf
      have o3 : Ro (kf fU8) w (.slice (some ((⟨g1, 0, none⟩ : Addr).add (0 + 0))) 9 9) a0.1.toList := cl_ro (mm := 9) (xs := a0.1) (o1.cl.lens lProd_0) (by decide)
      exact dv_ hK hw (wn rfl) (r_cut_arr (mm := 9) Try.underlying56 sz5 (by decide) hf rfl) (an_ rfl <| o3)
    · intro ρ w a hw hG hf hd K hK
      obtain ⟨o1, o2⟩ := hG
      exact dv_ hK hw (wn rfl) (r_fa fa58_0 hf rfl) rfl
    · intro ρ w a hw hG hf hd K hK
      obtain ⟨o1, o2⟩ := hG
      obtain ⟨_, hf, rfl⟩ := got (hd 2 (by kernel_rfl)) hf
      have o4 : Ro (kf fU8) w (.slice (some ((⟨g2, 0, none⟩ : Addr).add (0 + 0))) 9 9) a1.1.toList := cl_ro (mm := 9) (xs := a1.1) (o2.cl.lens lProd_0) (by decide)
      exact dv_ hK hw (wn rfl) (r_cut_arr (mm := 9) Try.underlying56 sz5 (by decide) hf rfl) (an_ rfl <| o4)
    · intro ρ w a hw hG hf hd K hK
      obtain ⟨o1, o2⟩ := hG
      obtain ⟨_, hf, ⟨rfl, o3⟩⟩ := got (hd 1 (by kernel_rfl)) hf
      obtain ⟨_, hf, ⟨rfl, o4⟩⟩ := got (hd 3 (by kernel_rfl)) hf
      refine dc_ hK hw (wn rfl) (r_fn en120 hf rfl) (slices_Compare_120_ok o3 o4 hx2) fun v w' hΦ => ?_
      obtain ⟨hb, hΦ⟩ := hΦ
      obtain rfl := hΦ
      have hE := Ext.new (ρ := ρ) 5 hb
      exact ⟨_, hw.new 5 hb, hE, rfl⟩
    · intro ρ w a hw hG hf hd K hK
      obtain ⟨o1, o2⟩ := hG
      exact dv_ hK hw (wn rfl) (r_fa fa58_1 hf rfl) rfl
    · intro ρ w a hw hG hf hd K hK
      obtain ⟨o1, o2⟩ := hG
      obtain ⟨_, hf, rfl⟩ := got (hd 5 (by kernel_rfl)) hf
      have o6 : Ro (kf fU8) w (.slice (some ((⟨g1, 0, none⟩ : Addr).add (0 + 9))) 9 9) a0.2.1.toList := cl_ro (mm := 9) (xs := a0.2.1) (o1.cl.lens lProd_1) (by decide)
      exact dv_ hK hw (wn rfl) (r_cut_arr (mm := 9) Try.underlying56 sz5 (by decide) hf rfl) (an_ rfl <| o6)
    · intro ρ w a hw hG hf hd K hK
      obtain ⟨o1, o2⟩ := hG
      exact dv_ hK hw (wn rfl) (r_fa fa58_1 hf rfl) rfl
    · intro ρ w a hw hG hf hd K hK
      obtain ⟨o1, o2⟩ := hG
      obtain ⟨_, hf, rfl⟩ := got (hd 7 (by kernel_rfl)) hf
      have o7 : Ro (kf fU8) w (.slice (some ((⟨g2, 0, none⟩ : Addr).add (0 + 9))) 9 9) a1.2.1.toList := cl_ro (mm := 9) (xs := a1.2.1) (o2.cl.lens lProd_1) (by decide)
      exact dv_ hK hw (wn rfl) (r_cut_arr (mm := 9) Try.underlying56 sz5 (by decide) hf rfl) (an_ rfl <| o7)
    · intro ρ w a hw hG hf hd K hK
      obtain ⟨o1, o2⟩ := hG
      obtain ⟨_, hf, ⟨rfl, o6⟩⟩ := got (hd 6 (by kernel_rfl)) hf
      obtain ⟨_, hf, ⟨rfl, o7⟩⟩ := got (hd 8 (by kernel_rfl)) hf
      refine dc_ hK hw (wn rfl) (r_fn en120 hf rfl) (slices_Compare_120_ok o6 o7 hx4) fun v w' hΦ => ?_
      obtain ⟨hb, hΦ⟩ := hΦ
      obtain rfl := hΦ
      have hE := Ext.new (ρ := ρ) 8 hb
      exact ⟨_, hw.new 8 hb, hE, rfl⟩
    · intro ρ w a hw hG hf hd K hK
      obtain ⟨o1, o2⟩ := hG
      exact dv_ hK hw (wn rfl) (r_fa fa58_2 hf rfl) rfl
    · intro ρ w a hw hG hf hd K hK
      obtain ⟨o1, o2⟩ := hG
      obtain ⟨_, hf, rfl⟩ := got (hd 10 (by kernel_rfl)) hf
      have o9 : Ro (kf fU8) w (.slice (some ((⟨g1, 0, none⟩ : Addr).add (0 + 18))) 9 9) a0.2.2.toList := cl_ro (mm := 9) (xs := a0.2.2) (o1.cl.lens lProd_2) (by decide)
      exact dv_ hK hw (wn rfl) (r_cut_arr (mm := 9) Try.underlying56 sz5 (by decide) hf rfl) (an_ rfl <| o9)
    · intro ρ w a hw hG hf hd K hK
      obtain ⟨o1, o2⟩ := hG
      exact dv_ hK hw (wn rfl) (r_fa fa58_2 hf rfl) rfl
    · intro ρ w a hw hG hf hd K hK
      obtain ⟨o1, o2⟩ := hG
      obtain ⟨_, hf, rfl⟩ := got (hd 12 (by kernel_rfl)) hf
      have o10 : Ro (kf fU8) w (.slice (some ((⟨g2, 0, none⟩ : Addr).add (0 + 18))) 9 9) a1.2.2.toList := cl_ro (mm := 9) (xs := a1.2.2) (o2.cl.lens lProd_2) (by decide)
      exact dv_ hK hw (wn rfl) (r_cut_arr (mm := 9) Try.underlying56 sz5 (by decide) hf rfl) (an_ rfl <| o10)
  intro ρ w a hw hG hf hd
  obtain ⟨o1, o2⟩ := hG
  obtain ⟨_, hf, rfl⟩ := got (hd 4 (by decide)) hf
  obtain ⟨_, hf, rfl⟩ := got (hd 9 (by decide)) hf
  obtain ⟨_, hf, ⟨rfl, o9⟩⟩ := got (hd 11 (by decide)) hf
  obtain ⟨_, hf, ⟨rfl, o10⟩⟩ := got (hd 13 (by decide)) hf
  obtain ⟨x5, hx6, hF⟩ := of_bind hF
  refine st_fn 11 hw hf rfl rfl (by decide) (r_fn en120 hf rfl) (slices_Compare_120_ok o9 o10 hx6) fun a v w ρ hf hw hE hN hΦ => ?_
  obtain rfl := hΦ
  replace o1 := o1.ext hE
  replace o2 := o2.ext hE
  replace o9 := o9.ext hE
  replace o10 := o10.ext hE
  refine sx_ hf (r_lit (d := fI64) (xs := ([x1, x3, x5] : List Int)) (vs := [vI x1, vI x3, vI x5]) 12 Try.underlying147 el3 (Nat.le_of_ble_eq_true rfl) (Nat.le_of_ble_eq_true rfl) hw hf rfl rfl rfl) fun a v12 w hf hΦ => ?_
  obtain ⟨ρ, hw, hE, o12⟩ := hΦ
  replace o1 := o1.ext hE
  replace o2 := o2.ext hE
  replace o9 := o9.ext hE
  replace o10 := o10.ext hE
  obtain ⟨x7, hx8, hF⟩ := of_bind hF
  refine st_fn 13 hw hf rfl rfl (by decide) (r_fn en119 hf rfl) (cmp_Or_119_ok o12.ro hx8) fun a v w ρ hf hw hE hN hΦ => ?_
  obtain rfl := hΦ
  replace o1 := o1.ext hE
  replace o2 := o2.ext hE
  replace o9 := o9.ext hE
  replace o10 := o10.ext hE
  replace o12 := o12.ext hE
  refine s_ hf (r_assign hf rfl) fun a hf => ?_
  refine c_nt <| c_retc ?_
  obtain rfl := Option.some.inj hF
  refine c_ret hf (res_tmp Try.results82 hf rfl) ?_
  exact ⟨_, rfl, hw.below, rfl⟩
/-! f36 -/
noncomputable def spec_l01Sorted_l10 (a0 : Sch) (s6 : Int) (s7 : List Prod) (s11 : Int) : Option (LR Int Sch) :=
  (if (decide (s11 < (s7.length : Int))) = true then (if 0 ≤ s6 ∧ s6 < (a0.ps.length : Int) then (if 0 ≤ s11 ∧ s11 < (s7.length : Int) then ((spec_l01Less (gl zProd a0.ps s6) (gl zProd s7 s11)).bind fun x19 => some (!x19)) else none) else none) else (some false)).bind fun (s13 : Bool) => if s13 = true then (some (.next (w64 (s11 + 1)))) else (some (.stop s11))
noncomputable def spec_l01Sorted_l5 (a0 : Sch) (s6 : Int) (s7 : List Prod) : Option (LR (Int × (List Prod)) Sch) :=
  if (decide (s6 < (a0.ps.length : Int))) = true then ((iter (fun s => spec_l01Sorted_l10 a0 s6 s7 s) 0).bind fun o => match o with | .stop s11 => (if 0 ≤ s6 ∧ s6 < (a0.ps.length : Int) then (if 0 ≤ s11 ∧ s11 ≤ (s7.length : Int) then (if (([gl zProd a0.ps s6]).length + ((s7.take (s7.length : Int).toNat).drop s11.toNat).length) * 27 ≤ 140737488355328 then (if (0 : Int) ≤ s11 ∧ s11 ≤ (s7.length : Int) then (if (([] : List Prod).length + ((s7.take s11.toNat).drop (0 : Int).toNat).length) * 27 ≤ 140737488355328 then (if ((([] : List Prod) ++ ((s7.take s11.toNat).drop (0 : Int).toNat)).length + ([gl zProd a0.ps s6] ++ ((s7.take (s7.length : Int).toNat).drop s11.toNat)).length) * 27 ≤ 140737488355328 then (some (.next (w64 (s6 + 1), ((([] : List Prod) ++ ((s7.take s11.toNat).drop (0 : Int).toNat)) ++ ([gl zProd a0.ps s6] ++ ((s7.take (s7.length : Int).toNat).drop s11.toNat)))))) else none) else none) else none) else none) else none) else none) | .ret r => some (.ret r) | .next _ => none) else (some (.stop (s6, s7)))
noncomputable def spec_l01Sorted (a0 : Sch) : Option Sch :=
  (spec_l01Empty a0).bind fun x1 => (iter (fun s => spec_l01Sorted_l5 a0 s.1 s.2) (0, x1.ps)).bind fun o => match o with | .stop (s6, s7) => (some ((⟨x1.p, x1.n, x1.m, x1.k, s7⟩ : Sch))) | .ret r => some r | .next _ => none
theorem spec_l01Sorted_ok {w0 : World} {a0 : Sch} {va0 : Value} (h0 : Ro (kf cProd) w0 va0 a0.ps) {r : Sch} (hF : spec_l01Sorted a0 = some r) :
    Calls Try.prog 36 [.agg ([vI a0.p, vI a0.n, vI a0.m, vI a0.k, va0]).toArray].toArray w0 fun e w => ∃ v, e = .returned v ∧ Below w0.heap.size w0 w ∧ ∃ u0, .agg [.int .i64 r.p, .int .i64 r.n, .int .i64 r.m, .int .i64 r.k, u0].toArray = v ∧ Fresh (kf cProd) 58 w0 w u0 r.ps := by
  refine calls_of (k := 58) Try.func36 rfl rfl (Nat.le_of_ble_eq_true rfl) fun a hf => ?_
  replace hf : Fr 58 a [(0, .agg ([vI a0.p, vI a0.n, vI a0.m, vI a0.k, va0]).toArray)] := hf
  refine c_start fun w ρ hw => ?_
  unfold spec_l01Sorted at hF
  refine c_seq <| c_region ?_
  refine sx_ hf (r_box (cs := [vI a0.p, vI a0.n, vI a0.m, vI a0.k, va0]) 1 hw hf rfl rfl) fun a v w hf hΦ => ?_
  obtain ⟨g1, ρ, rfl, hw, hE, o1⟩ := hΦ
  have o3 : Ow (kf cProd) 58 ρ w w0.heap.size 3 (.slice none 0 0) [] := Ow.nil _ _ _ _ _ _
  refine sx_ hf (r_alloc (cs := [vI 0, vI 0, vI 0, vI 0, (.slice none 0 0)]) 2 ze28 rfl hw) fun a v w hf hΦ => ?_
  obtain ⟨g2, ρ, rfl, hw, hE, o2⟩ := hΦ
  replace o1 := o1.ext hE
  replace o3 := o3.ext hE
  refine c_nt <| c_seq <| c_region ?_
  refine s_ hf (r_load_agg ty28 hf rfl o1.cl rfl) fun a hf => ?_
  obtain ⟨x1, hx2, hF⟩ := of_bind hF
  refine st_fn 4 hw hf rfl rfl (by decide) (r_fn en48 hf rfl) (spec_l01Empty_ok (a0 := a0) (h0.now hw) hx2) fun a v w ρ hf hw hE hN hΦ => ?_
  obtain ⟨u3, rfl, hr4⟩ := hΦ
  replace o1 := o1.ext hE
  replace o3 := o3.ext hE
  replace o2 := o2.ext hE
  have o4 := hN hr4
  have o6 : Ow (kf cProd) 58 ρ w w0.heap.size 6 (.slice none 0 0) [] := Ow.nil _ _ _ _ _ _
  refine sx_ hf (r_alloc (cs := [vI 0, vI 0, vI 0, vI 0, (.slice none 0 0)]) 5 ze28 rfl hw) fun a v w hf hΦ => ?_
  obtain ⟨g5, ρ, rfl, hw, hE, o5⟩ := hΦ
  replace o1 := o1.ext hE
  replace o3 := o3.ext hE
  replace o2 := o2.ext hE
  replace o4 := o4.ext hE
  replace o6 := o6.ext hE
  refine sk_ hf (r_store_w (cs' := [vI x1.p, vI x1.n, vI x1.m, vI x1.k, u3]) hw o5 (by decide) ty28 rfl rfl (one_sch o4.ro.one) hf rfl rfl rfl) fun a w hf hΦ => ?_
  obtain ⟨hw, hA, o5⟩ := hΦ
  replace o1 := o1.adv hA (by decide)
  replace o3 := o3.adv hA (by decide)
  replace o2 := o2.adv hA (by decide)
  replace o4 := o4.adv hA (by decide)
  replace o6 := o6.adv hA (by decide)
  refine c_nt <| c_seq <| c_seq <| c_region ?_
  refine s_ hf (r_assign hf rfl) fun a hf => ?_
  refine c_nt ?_
  obtain ⟨ol5, ho5, hG5⟩ := of_bind hF
  clear hF
  refine c_block (c_loop (id := 0) (fun s => spec_l01Sorted_l5 a0 s.1 s.2) (fun (s : Int × (List Prod)) a w => match s with | (s6, s7) => ∃ ρ v8, Wd w0 ρ w ∧ Fr 58 a [(1, .pointer (some ((⟨g1, 0, none⟩ : Addr).add 0))), (2, .pointer (some ((⟨g2, 0, none⟩ : Addr).add 0))), (3, .pointer (some ((⟨g5, 0, none⟩ : Addr).add 0))), (4, vI s6)] ∧ Va ρ w 1 g1 28 ([vI a0.p, vI a0.n, vI a0.m, vI a0.k, va0]) ∧ Va ρ w 2 g2 28 ([vI 0, vI 0, vI 0, vI 0, (.slice none 0 0)]) ∧ O58 ρ w w0 3 (.slice none 0 0) ([] : List Prod) ∧ O58 ρ w w0 4 v8 s7 ∧ Va ρ w 5 g5 28 ([vI x1.p, vI x1.n, vI x1.m, vI x1.k, v8])) (fun (s : Int × (List Prod)) a w => match s with | (s6, s7) => ∃ ρ v8, Wd w0 ρ w ∧ Fr 58 a [(2, .pointer (some ((⟨g2, 0, none⟩ : Addr).add 0))), (3, .pointer (some ((⟨g5, 0, none⟩ : Addr).add 0)))] ∧ Va ρ w 2 g2 28 ([vI 0, vI 0, vI 0, vI 0, (.slice none 0 0)]) ∧ O58 ρ w w0 3 (.slice none 0 0) ([] : List Prod) ∧ O58 ρ w w0 4 v8 s7 ∧ Va ρ w 5 g5 28 ([vI x1.p, vI x1.n, vI x1.m, vI x1.k, v8])) ho5 ⟨_, _, hw, hf.sub ⟨rfl, rfl, rfl, rfl, trivial⟩, o1, o2, o3, o4, o5⟩ ?_ ?_)
  · rintro ⟨s6, s7⟩ lr a w ⟨ρ, v8, hw, hf, o1, o2, o3, o4, o5⟩ hF
    replace hF : spec_l01Sorted_l5 a0 s6 s7 = some lr := hF
    unfold spec_l01Sorted_l5 at hF
    refine c_seq <| c_seq <| c_region ?_
    refine s_ hf (r_move hf rfl) fun a hf => ?_
    refine s_ hf (r_fa fa28_4 hf rfl) fun a hf => ?_
    refine s_ hf (r_load_cell ty26 hf rfl (o1.cl.at_ 4 _ rfl)) fun a hf => ?_
    refine s_ hf (r_len Try.underlying26 (h0.now hw) hf rfl) fun a hf => ?_
    refine s_ hf (r_lss hf rfl rfl) fun a hf => ?_
    refine c_nt ?_
    rcases of_ite hF with ⟨hb9, hF⟩ | ⟨hb9, hF⟩
    rotate_left
    · refine c_iff hf rfl hb9 <| c_exit <| x_then ?_
      obtain rfl := Option.some.inj hF
      exact Rnd.stops ⟨_, _, hw, hf.sub ⟨rfl, rfl, trivial⟩, o2, o3, o4, o5⟩
    refine c_ift hf rfl hb9 <| c_skip <| n_then <| c_seq <| c_block <| c_seq <| c_region ?_
    refine s_ hf (r_assign hf rfl) fun a hf => ?_
    refine c_nt <| c_seq ?_
    obtain ⟨ol10, ho10, hG10⟩ := of_bind hF
    clear hF
    refine c_block (c_loop (id := 2) (fun s => spec_l01Sorted_l10 a0 s6 s7 s) (fun (s11 : Int) a w => ∃ ρ, Wd w0 ρ w ∧ Fr 58 a [(1, .pointer (some ((⟨g1, 0, none⟩ : Addr).add 0))), (2, .pointer (some ((⟨g2, 0, none⟩ : Addr).add 0))), (3, .pointer (some ((⟨g5, 0, none⟩ : Addr).add 0))), (4, vI s6), (5, vI s11)] ∧ Va ρ w 1 g1 28 ([vI a0.p, vI a0.n, vI a0.m, vI a0.k, va0]) ∧ Va ρ w 2 g2 28 ([vI 0, vI 0, vI 0, vI 0, (.slice none 0 0)]) ∧ O58 ρ w w0 3 (.slice none 0 0) ([] : List Prod) ∧ O58 ρ w w0 4 v8 s7 ∧ Va ρ w 5 g5 28 ([vI x1.p, vI x1.n, vI x1.m, vI x1.k, v8])) (fun (s11 : Int) a w => ∃ ρ, Wd w0 ρ w ∧ Fr 58 a [(1, .pointer (some ((⟨g1, 0, none⟩ : Addr).add 0))), (2, .pointer (some ((⟨g2, 0, none⟩ : Addr).add 0))), (3, .pointer (some ((⟨g5, 0, none⟩ : Addr).add 0))), (4, vI s6), (5, vI s11)] ∧ Va ρ w 1 g1 28 ([vI a0.p, vI a0.n, vI a0.m, vI a0.k, va0]) ∧ Va ρ w 2 g2 28 ([vI 0, vI 0, vI 0, vI 0, (.slice none 0 0)]) ∧ O58 ρ w w0 3 (.slice none 0 0) ([] : List Prod) ∧ O58 ρ w w0 4 v8 s7 ∧ Va ρ w 5 g5 28 ([vI x1.p, vI x1.n, vI x1.m, vI x1.k, v8])) ho10 ⟨_, hw, hf.sub ⟨rfl, rfl, rfl, rfl, rfl, trivial⟩, o1, o2, o3, o4, o5⟩ ?_ ?_)
    · rintro s11 lr a w ⟨ρ, hw, hf, o1, o2, o3, o4, o5⟩ hF
      replace hF : spec_l01Sorted_l10 a0 s6 s7 s11 = some lr := hF
      unfold spec_l01Sorted_l10 at hF
      refine c_seq <| c_seq ?_
      obtain ⟨s13, hT12, hG12⟩ := of_bind hF
      clear hF
      refine c_meet (fun (s13 : Bool) a w => ∃ ρ, Wd w0 ρ w ∧ Fr 58 a [(1, .pointer (some ((⟨g1, 0, none⟩ : Addr).add 0))), (2, .pointer (some ((⟨g2, 0, none⟩ : Addr).add 0))), (3, .pointer (some ((⟨g5, 0, none⟩ : Addr).add 0))), (4, vI s6), (5, vI s11), (34, .bool s13)] ∧ Va ρ w 1 g1 28 ([vI a0.p, vI a0.n, vI a0.m, vI a0.k, va0]) ∧ Va ρ w 2 g2 28 ([vI 0, vI 0, vI 0, vI 0, (.slice none 0 0)]) ∧ O58 ρ w w0 3 (.slice none 0 0) ([] : List Prod) ∧ O58 ρ w w0 4 v8 s7 ∧ Va ρ w 5 g5 28 ([vI x1.p, vI x1.n, vI x1.m, vI x1.k, v8])) s13 ?_ ?_
      · have hF := hT12
        rcases of_ite hF with ⟨hb14, hF⟩ | ⟨hb14, hF⟩
        rotate_left
        · replace hf : Fr 58 a [(1, .pointer (some ((⟨g1, 0, none⟩ : Addr).add 0))), (2, .pointer (some ((⟨g2, 0, none⟩ : Addr).add 0))), (3, .pointer (some ((⟨g5, 0, none⟩ : Addr).add 0))), (4, vI s6), (5, vI s11)] := hf.sub ⟨rfl, rfl, rfl, rfl, rfl, trivial⟩
          refine c_drawL (h := 16) mixed (by kernel_rfl) (by kernel_rfl) (fun ρ w => Va ρ w 1 g1 28 ([vI a0.p, vI a0.n, vI a0.m, vI a0.k, va0]) ∧ Va ρ w 2 g2 28 ([vI 0, vI 0, vI 0, vI 0, (.slice none 0 0)]) ∧ O58 ρ w w0 3 (.slice none 0 0) ([] : List Prod) ∧ O58 ρ w w0 4 v8 s7 ∧ Va ρ w 5 g5 28 ([vI x1.p, vI x1.n, vI x1.m, vI x1.k, v8])) ?_ [fun ρ w v => vI s11 = v, fun ρ w v => .pointer (some ((⟨g5, 0, none⟩ : Addr).add (0 + 4))) = v, fun ρ w v => v8 = v, fun ρ w v => vI (s7.length : Int) = v, fun ρ w v => .bool (decide (s11 < (s7.length : Int))) = v, fun ρ w v => .bool (decide (s11 < (s7.length : Int))) = v, fun ρ w v => undef = v, fun ρ w v => undef = v, fun ρ w v => undef = v, fun ρ w v => undef = v, fun ρ w v => undef = v, fun ρ w v => undef = v, fun ρ w v => undef = v, fun ρ w v => undef = v, fun ρ w v => undef = v, fun ρ w v => undef = v] ?_ hw ⟨o1, o2, o3, o4, o5⟩ hf ?_ ?_
          · intro ρ w ρ' w' hE hG
            obtain ⟨o1, o2, o3, o4, o5⟩ := hG
            exact ⟨o1.ext hE, o2.ext hE, o3.ext hE, o4.ext hE, o5.ext hE⟩
          · exact LastsL.cons (fun _ _ _ _ _ _ h => h) <| LastsL.cons (fun _ _ _ _ _ _ h => h) <| LastsL.cons (fun _ _ _ _ _ _ h => h) <| LastsL.cons (fun _ _ _ _ _ _ h => h) <| LastsL.cons (fun _ _ _ _ _ _ h => h) <| LastsL.cons (fun _ _ _ _ _ _ h => h) <| LastsL.cons (fun _ _ _ _ _ _ h => h) <| LastsL.cons (fun _ _ _ _ _ _ h => h) <| LastsL.cons (fun _ _ _ _ _ _ h => h) <| LastsL.cons (fun _ _ _ _ _ _ h => h) <| LastsL.cons (fun _ _ _ _ _ _ h => h) <| LastsL.cons (fun _ _ _ _ _ _ h => h) <| LastsL.cons (fun _ _ _ _ _ _ h => h) <| LastsL.cons (fun _ _ _ _ _ _ h => h) <| LastsL.cons (fun _ _ _ _ _ _ h => h) <| LastsL.cons (fun _ _ _ _ _ _ h => h) <| LastsL.nil
          · refine StepsB.cons ?_ <| StepsB.cons ?_ <| StepsB.cons ?_ <| StepsB.cons ?_ <| StepsB.cons ?_ <| StepsB.cons ?_ <| StepsB.cons ?_ <| StepsB.cons ?_ <| StepsB.cons ?_ <| StepsB.cons ?_ <| StepsB.cons ?_ <| StepsB.cons ?_ <| StepsB.cons ?_ <| StepsB.cons ?_ <| StepsB.cons ?_ <| StepsB.cons ?_ <| StepsB.nil
            · intro ρ w a hw hG hf hd K hK
              obtain ⟨o1, o2, o3, o4, o5⟩ := hG
              exact dv_ hK hw (wn rfl) (r_move hf rfl) rfl
            · intro ρ w a hw hG hf hd K hK
              obtain ⟨o1, o2, o3, o4, o5⟩ := hG
              exact dv_ hK hw (wn rfl) (r_fa fa28_4 hf rfl) rfl
            · intro ρ w a hw hG hf hd K hK
              obtain ⟨o1, o2, o3, o4, o5⟩ := hG
              obtain ⟨_, hf, rfl⟩ := got (hd 1 (by kernel_rfl)) hf
              exact dv_ hK hw (wn rfl) (r_load_cell ty26 hf rfl (o5.cl.at_ 4 _ rfl)) rfl
            · intro ρ w a hw hG hf hd K hK
              obtain ⟨o1, o2, o3, o4, o5⟩ := hG
              obtain ⟨_, hf, rfl⟩ := got (hd 2 (by kernel_rfl)) hf
              exact dv_ hK hw (wn rfl) (r_len Try.underlying26 o4.ro hf rfl) rfl
            · intro ρ w a hw hG hf hd K hK
              obtain ⟨o1, o2, o3, o4, o5⟩ := hG
              obtain ⟨_, hf, rfl⟩ := got (hd 0 (by kernel_rfl)) hf
              obtain ⟨_, hf, rfl⟩ := got (hd 3 (by kernel_rfl)) hf
              exact dv_ hK hw (wn rfl) (r_lss hf rfl rfl) rfl
            · intro ρ w a hw hG hf hd K hK
              obtain ⟨o1, o2, o3, o4, o5⟩ := hG
              obtain ⟨_, hf, rfl⟩ := got (hd 4 (by kernel_rfl)) hf
              exact dv_ hK hw (wn rfl) (r_move hf rfl) rfl
            · intro ρ w a hw hG hf hd K hK
              obtain ⟨o1, o2, o3, o4, o5⟩ := hG
              obtain ⟨_, hf, rfl⟩ := got (hd 5 (by kernel_rfl)) hf
              exact do_ hK (b := false) hw hf rfl rfl rfl hb14 rfl rfl
            · intro ρ w a hw hG hf hd K hK
              obtain ⟨o1, o2, o3, o4, o5⟩ := hG
              obtain ⟨_, hf, rfl⟩ := got (hd 5 (by kernel_rfl)) hf
              obtain ⟨_, hf, rfl⟩ := got (hd 6 (by kernel_rfl)) hf
              exact do_ hK (b := false) hw hf rfl rfl rfl hb14 rfl rfl
            · intro ρ w a hw hG hf hd K hK
              obtain ⟨o1, o2, o3, o4, o5⟩ := hG
              obtain ⟨_, hf, rfl⟩ := got (hd 5 (by kernel_rfl)) hf
              exact do_ hK (b := false) hw hf rfl rfl rfl hb14 rfl rfl
            · intro ρ w a hw hG hf hd K hK
              obtain ⟨o1, o2, o3, o4, o5⟩ := hG
              obtain ⟨_, hf, rfl⟩ := got (hd 5 (by kernel_rfl)) hf
              obtain ⟨_, hf, rfl⟩ := got (hd 7 (by kernel_rfl)) hf
              obtain ⟨_, hf, rfl⟩ := got (hd 8 (by kernel_rfl)) hf
              exact do_ hK (b := false) hw hf rfl rfl rfl hb14 rfl rfl
            · intro ρ w a hw hG hf hd K hK
              obtain ⟨o1, o2, o3, o4, o5⟩ := hG
              obtain ⟨_, hf, rfl⟩ := got (hd 5 (by kernel_rfl)) hf
              obtain ⟨_, hf, rfl⟩ := got (hd 9 (by kernel_rfl)) hf
              exact do_ hK (b := false) hw hf rfl rfl rfl hb14 rfl rfl
            · intro ρ w a hw hG hf hd K hK
              obtain ⟨o1, o2, o3, o4, o5⟩ := hG
              obtain ⟨_, hf, rfl⟩ := got (hd 5 (by kernel_rfl)) hf
              exact do_ hK (b := false) hw hf rfl rfl rfl hb14 rfl rfl
            · intro ρ w a hw hG hf hd K hK
              obtain ⟨o1, o2, o3, o4, o5⟩ := hG
              obtain ⟨_, hf, rfl⟩ := got (hd 5 (by kernel_rfl)) hf
              obtain ⟨_, hf, rfl⟩ := got (hd 11 (by kernel_rfl)) hf
              exact do_ hK (b := false) hw hf rfl rfl rfl hb14 rfl rfl
            · intro ρ w a hw hG hf hd K hK
              obtain ⟨o1, o2, o3, o4, o5⟩ := hG
              obtain ⟨_, hf, rfl⟩ := got (hd 5 (by kernel_rfl)) hf
              exact do_ hK (b := false) hw hf rfl rfl rfl hb14 rfl rfl
            · intro ρ w a hw hG hf hd K hK
              obtain ⟨o1, o2, o3, o4, o5⟩ := hG
              obtain ⟨_, hf, rfl⟩ := got (hd 5 (by kernel_rfl)) hf
              obtain ⟨_, hf, rfl⟩ := got (hd 12 (by kernel_rfl)) hf
              obtain ⟨_, hf, rfl⟩ := got (hd 13 (by kernel_rfl)) hf
              exact do_ hK (b := false) hw hf rfl rfl rfl hb14 rfl rfl
            · intro ρ w a hw hG hf hd K hK
              obtain ⟨o1, o2, o3, o4, o5⟩ := hG
              obtain ⟨_, hf, rfl⟩ := got (hd 5 (by kernel_rfl)) hf
              obtain ⟨_, hf, rfl⟩ := got (hd 14 (by kernel_rfl)) hf
              exact do_ hK (b := false) hw hf rfl rfl rfl hb14 rfl rfl
          intro ρ w a hw hG hf hd
          obtain ⟨o1, o2, o3, o4, o5⟩ := hG
          obtain ⟨_, hf, rfl⟩ := got (hd 5 (by decide)) hf
          obtain ⟨_, hf, rfl⟩ := got (hd 10 (by decide)) hf
          obtain ⟨_, hf, rfl⟩ := got (hd 15 (by decide)) hf
          refine st_no (b := false) hf rfl rfl rfl hb14 rfl (by decide) fun a hf => ?_
          refine st_no (b := false) hf rfl rfl rfl hb14 rfl (by decide) fun a hf => ?_
          refine s_ hf (r_pick (b := false) hf rfl hb14 rfl) fun a hf => ?_
          refine c_nil ⟨rfl, ?_⟩
          obtain rfl := Option.some.inj hF
          exact ⟨_, hw, hf.sub ⟨rfl, rfl, rfl, rfl, rfl, rfl, trivial⟩, o1, o2, o3, o4, o5⟩
        obtain ⟨hc15, hF⟩ := of_guard hF
        obtain ⟨ad16, c16, he16, hl16⟩ := Ro.el cProd h0 zProd hc15.1 hc15.2
        obtain ⟨hc17, hF⟩ := of_guard hF
        replace hf : Fr 58 a [(1, .pointer (some ((⟨g1, 0, none⟩ : Addr).add 0))), (2, .pointer (some ((⟨g2, 0, none⟩ : Addr).add 0))), (3, .pointer (some ((⟨g5, 0, none⟩ : Addr).add 0))), (4, vI s6), (5, vI s11)] := hf.sub ⟨rfl, rfl, rfl, rfl, rfl, trivial⟩
        refine c_drawL (h := 16) mixed (by kernel_rfl) (by kernel_rfl) (fun ρ w => Va ρ w 1 g1 28 ([vI a0.p, vI a0.n, vI a0.m, vI a0.k, va0]) ∧ Va ρ w 2 g2 28 ([vI 0, vI 0, vI 0, vI 0, (.slice none 0 0)]) ∧ O58 ρ w w0 3 (.slice none 0 0) ([] : List Prod) ∧ O58 ρ w w0 4 v8 s7 ∧ Va ρ w 5 g5 28 ([vI x1.p, vI x1.n, vI x1.m, vI x1.k, v8])) ?_ [fun ρ w v => vI s11 = v, fun ρ w v => .pointer (some ((⟨g5, 0, none⟩ : Addr).add (0 + 4))) = v, fun ρ w v => v8 = v, fun ρ w v => vI (s7.length : Int) = v, fun ρ w v => .bool (decide (s11 < (s7.length : Int))) = v, fun ρ w v => .bool (decide (s11 < (s7.length : Int))) = v, fun ρ w v => .pointer (some ((⟨g1, 0, none⟩ : Addr).add (0 + 4))) = v, fun ρ w v => va0 = v, fun ρ w v => vI s6 = v, fun ρ w v => .pointer (some (ad16.add (s6.toNat * 27))) = v, fun ρ w v => .agg (cProd.enc (gl zProd a0.ps s6)).toArray = v, fun ρ w v => .pointer (some ((⟨g5, 0, none⟩ : Addr).add (0 + 4))) = v, fun ρ w v => v8 = v, fun ρ w v => vI s11 = v, fun ρ w v => ∃ ad18, .pointer (some (ad18.add (s11.toNat * 27))) = v ∧ Ce ρ w 4 v8 s7.length ad18 (s11.toNat * 27) (cProd.enc (gl zProd s7 s11)), fun ρ w v => .agg (cProd.enc (gl zProd s7 s11)).toArray = v] ?_ hw ⟨o1, o2, o3, o4, o5⟩ hf ?_ ?_
        · intro ρ w ρ' w' hE hG
          obtain ⟨o1, o2, o3, o4, o5⟩ := hG
          exact ⟨o1.ext hE, o2.ext hE, o3.ext hE, o4.ext hE, o5.ext hE⟩
        · exact LastsL.cons (fun _ _ _ _ _ _ h => h) <| LastsL.cons (fun _ _ _ _ _ _ h => h) <| LastsL.cons (fun _ _ _ _ _ _ h => h) <| LastsL.cons (fun _ _ _ _ _ _ h => h) <| LastsL.cons (fun _ _ _ _ _ _ h => h) <| LastsL.cons (fun _ _ _ _ _ _ h => h) <| LastsL.cons (fun _ _ _ _ _ _ h => h) <| LastsL.cons (fun _ _ _ _ _ _ h => h) <| LastsL.cons (fun _ _ _ _ _ _ h => h) <| LastsL.cons (fun _ _ _ _ _ _ h => h) <| LastsL.cons (fun _ _ _ _ _ _ h => h) <| LastsL.cons (fun _ _ _ _ _ _ h => h) <| LastsL.cons (fun _ _ _ _ _ _ h => h) <| LastsL.cons (fun _ _ _ _ _ _ h => h) <| LastsL.cons (fun _ _ _ _ _ hE h => by obtain ⟨ad18, h, hl18⟩ := h; exact ⟨_, h, hl18.ext hE⟩) <| LastsL.cons (fun _ _ _ _ _ _ h => h) <| LastsL.nil
        · refine StepsB.cons ?_ <| StepsB.cons ?_ <| StepsB.cons ?_ <| StepsB.cons ?_ <| StepsB.cons ?_ <| StepsB.cons ?_ <| StepsB.cons ?_ <| StepsB.cons ?_ <| StepsB.cons ?_ <| StepsB.cons ?_ <| StepsB.cons ?_ <| StepsB.cons ?_ <| StepsB.cons ?_ <| StepsB.cons ?_ <| StepsB.cons ?_ <| StepsB.cons ?_ <| StepsB.nil
          · intro ρ w a hw hG hf hd K hK
            obtain ⟨o1, o2, o3, o4, o5⟩ := hG
            exact dv_ hK hw (wn rfl) (r_move hf rfl) rfl
          · intro ρ w a hw hG hf hd K hK
            obtain ⟨o1, o2, o3, o4, o5⟩ := hG
            exact dv_ hK hw (wn rfl) (r_fa fa28_4 hf rfl) rfl
          · intro ρ w a hw hG hf hd K hK
            obtain ⟨o1, o2, o3, o4, o5⟩ := hG
            obtain ⟨_, hf, rfl⟩ := got (hd 1 (by kernel_rfl)) hf
            exact dv_ hK hw (wn rfl) (r_load_cell ty26 hf rfl (o5.cl.at_ 4 _ rfl)) rfl
          · intro ρ w a hw hG hf hd K hK
            obtain ⟨o1, o2, o3, o4, o5⟩ := hG
            obtain ⟨_, hf, rfl⟩ := got (hd 2 (by kernel_rfl)) hf
            exact dv_ hK hw (wn rfl) (r_len Try.underlying26 o4.ro hf rfl) rfl
          · intro ρ w a hw hG hf hd K hK
            obtain ⟨o1, o2, o3, o4, o5⟩ := hG
            obtain ⟨_, hf, rfl⟩ := got (hd 0 (by kernel_rfl)) hf
            obtain ⟨_, hf, rfl⟩ := got (hd 3 (by kernel_rfl)) hf
            exact dv_ hK hw (wn rfl) (r_lss hf rfl rfl) rfl
          · intro ρ w a hw hG hf hd K hK
            obtain ⟨o1, o2, o3, o4, o5⟩ := hG
            obtain ⟨_, hf, rfl⟩ := got (hd 4 (by kernel_rfl)) hf
            exact dv_ hK hw (wn rfl) (r_move hf rfl) rfl
          · intro ρ w a hw hG hf hd K hK
            obtain ⟨o1, o2, o3, o4, o5⟩ := hG
            obtain ⟨_, hf, rfl⟩ := got (hd 5 (by kernel_rfl)) hf
            exact dv_ hK hw (wg (b := true) hf rfl rfl rfl hb14) (r_fa fa28_4 hf rfl) rfl
          · intro ρ w a hw hG hf hd K hK
            obtain ⟨o1, o2, o3, o4, o5⟩ := hG
            obtain ⟨_, hf, rfl⟩ := got (hd 5 (by kernel_rfl)) hf
            obtain ⟨_, hf, rfl⟩ := got (hd 6 (by kernel_rfl)) hf
            exact dv_ hK hw (wg (b := true) hf rfl rfl rfl hb14) (r_load_cell ty26 hf rfl (o1.cl.at_ 4 _ rfl)) rfl
          · intro ρ w a hw hG hf hd K hK
            obtain ⟨o1, o2, o3, o4, o5⟩ := hG
            obtain ⟨_, hf, rfl⟩ := got (hd 5 (by kernel_rfl)) hf
            exact dv_ hK hw (wg (b := true) hf rfl rfl rfl hb14) (r_move hf rfl) rfl
          · intro ρ w a hw hG hf hd K hK
            obtain ⟨o1, o2, o3, o4, o5⟩ := hG
            obtain ⟨_, hf, rfl⟩ := got (hd 5 (by kernel_rfl)) hf
            obtain ⟨_, hf, rfl⟩ := got (hd 7 (by kernel_rfl)) hf
            obtain ⟨_, hf, rfl⟩ := got (hd 8 (by kernel_rfl)) hf
            exact dv_ hK hw (wg (b := true) hf rfl rfl rfl hb14) (r_idx Try.underlying26 sz58 hf rfl ⟨_, he16⟩ rfl hc15.1 hc15.2) rfl
          · intro ρ w a hw hG hf hd K hK
            obtain ⟨o1, o2, o3, o4, o5⟩ := hG
            obtain ⟨_, hf, rfl⟩ := got (hd 5 (by kernel_rfl)) hf
            obtain ⟨_, hf, rfl⟩ := got (hd 9 (by kernel_rfl)) hf
            exact dv_ hK hw (wg (b := true) hf rfl rfl rfl hb14) (r_load_agg ty58 hf rfl (hl16.below hw.below) (cProd.len _)) rfl
          · intro ρ w a hw hG hf hd K hK
            obtain ⟨o1, o2, o3, o4, o5⟩ := hG
            obtain ⟨_, hf, rfl⟩ := got (hd 5 (by kernel_rfl)) hf
            exact dv_ hK hw (wg (b := true) hf rfl rfl rfl hb14) (r_fa fa28_4 hf rfl) rfl
          · intro ρ w a hw hG hf hd K hK
            obtain ⟨o1, o2, o3, o4, o5⟩ := hG
            obtain ⟨_, hf, rfl⟩ := got (hd 5 (by kernel_rfl)) hf
            obtain ⟨_, hf, rfl⟩ := got (hd 11 (by kernel_rfl)) hf
            exact dv_ hK hw (wg (b := true) hf rfl rfl rfl hb14) (r_load_cell ty26 hf rfl (o5.cl.at_ 4 _ rfl)) rfl
          · intro ρ w a hw hG hf hd K hK
            obtain ⟨o1, o2, o3, o4, o5⟩ := hG
            obtain ⟨_, hf, rfl⟩ := got (hd 5 (by kernel_rfl)) hf
            exact dv_ hK hw (wg (b := true) hf rfl rfl rfl hb14) (r_move hf rfl) rfl
          · intro ρ w a hw hG hf hd K hK
            obtain ⟨o1, o2, o3, o4, o5⟩ := hG
            obtain ⟨_, hf, rfl⟩ := got (hd 5 (by kernel_rfl)) hf
            obtain ⟨_, hf, rfl⟩ := got (hd 12 (by kernel_rfl)) hf
            obtain ⟨_, hf, rfl⟩ := got (hd 13 (by kernel_rfl)) hf
            obtain ⟨ad18, hl18⟩ := Ow.ce (d := cProd) o4 zProd hc17.1 hc17.2
            exact dv_ hK hw (wg (b := true) hf rfl rfl rfl hb14) (r_idx Try.underlying26 sz58 hf rfl hl18.at_ rfl hc17.1 hc17.2) (ex_ <| an_ rfl <| hl18)
          · intro ρ w a hw hG hf hd K hK
            obtain ⟨o1, o2, o3, o4, o5⟩ := hG
            obtain ⟨_, hf, rfl⟩ := got (hd 5 (by kernel_rfl)) hf
            obtain ⟨_, hf, ⟨ad18, rfl, hl18⟩⟩ := got (hd 14 (by kernel_rfl)) hf
            exact dv_ hK hw (wg (b := true) hf rfl rfl rfl hb14) (r_load_agg ty58 hf rfl hl18.co.cl (cProd.len _)) rfl
        intro ρ w a hw hG hf hd
        obtain ⟨o1, o2, o3, o4, o5⟩ := hG
        obtain ⟨_, hf, rfl⟩ := got (hd 5 (by decide)) hf
        obtain ⟨_, hf, rfl⟩ := got (hd 10 (by decide)) hf
        obtain ⟨_, hf, rfl⟩ := got (hd 15 (by decide)) hf
        obtain ⟨x19, hx20, hF⟩ := of_bind hF
        refine st_gfn (b := true) 8 hw hf rfl rfl rfl hb14 rfl (by decide) (r_fn en74 hf rfl) (spec_l01Less_ok  hx20) fun a v w ρ hf hw hE hN hΦ => ?_
        obtain rfl := hΦ
        replace o1 := o1.ext hE
        replace o2 := o2.ext hE
        replace o3 := o3.ext hE
        replace o4 := o4.ext hE
        replace o5 := o5.ext hE
        refine st_g (b := true) hf rfl rfl rfl hb14 rfl (by decide) (r_not hf rfl) fun a hf => ?_
        refine s_ hf (r_pick (b := true) hf rfl hb14 rfl) fun a hf => ?_
        refine c_nil ⟨rfl, ?_⟩
        obtain rfl := Option.some.inj hF
        exact ⟨_, hw, hf.sub ⟨rfl, rfl, rfl, rfl, rfl, rfl, trivial⟩, o1, o2, o3, o4, o5⟩
      rintro a w ⟨ρ, hw, hf, o1, o2, o3, o4, o5⟩
      have hF := hG12
      refine n_then ?_
      rcases of_ite hF with ⟨hb21, hF⟩ | ⟨hb21, hF⟩
      rotate_left
      · refine c_iff hf rfl hb21 <| c_exit <| x_then ?_
        obtain rfl := Option.some.inj hF
        exact Rnd.stops ⟨_, hw, hf.sub ⟨rfl, rfl, rfl, rfl, rfl, trivial⟩, o1, o2, o3, o4, o5⟩
      refine c_ift hf rfl hb21 <| c_skip <| n_then <| c_block <| c_region ?_
      refine s_ hf (r_move hf rfl) fun a hf => ?_
      refine s_ hf (r_add hf rfl rfl) fun a hf => ?_
      refine s_ hf (r_assign hf rfl) fun a hf => ?_
      refine c_nil <| n_block ?_
      obtain rfl := Option.some.inj hF
      exact Rnd.goes ⟨_, hw, hf.sub ⟨rfl, rfl, rfl, rfl, rfl, trivial⟩, o1, o2, o3, o4, o5⟩
    rintro s11 a w hs ⟨ρ, hw, hf, o1, o2, o3, o4, o5⟩
    subst hs
    have hF := hG10
    dsimp only at hF
    refine x_block <| n_then <| c_seq ?_
    obtain ⟨hc22, hF⟩ := of_guard hF
    obtain ⟨ad23, c23, he23, hl23⟩ := Ro.el cProd h0 zProd hc22.1 hc22.2
    obtain ⟨hc24, hF⟩ := of_guard hF
    replace hf : Fr 58 a [(1, .pointer (some ((⟨g1, 0, none⟩ : Addr).add 0))), (2, .pointer (some ((⟨g2, 0, none⟩ : Addr).add 0))), (3, .pointer (some ((⟨g5, 0, none⟩ : Addr).add 0))), (4, vI s6), (5, vI s11)] := hf.sub ⟨rfl, rfl, rfl, rfl, rfl, trivial⟩
    refine c_drawL (h := 10) mixed (by kernel_rfl) (by kernel_rfl) (fun ρ w => Va ρ w 1 g1 28 ([vI a0.p, vI a0.n, vI a0.m, vI a0.k, va0]) ∧ Va ρ w 2 g2 28 ([vI 0, vI 0, vI 0, vI 0, (.slice none 0 0)]) ∧ O58 ρ w w0 3 (.slice none 0 0) ([] : List Prod) ∧ O58 ρ w w0 4 v8 s7 ∧ Va ρ w 5 g5 28 ([vI x1.p, vI x1.n, vI x1.m, vI x1.k, v8])) ?_ [fun ρ w v => .pointer (some ((⟨g1, 0, none⟩ : Addr).add (0 + 4))) = v, fun ρ w v => va0 = v, fun ρ w v => vI s6 = v, fun ρ w v => .pointer (some (ad23.add (s6.toNat * 27))) = v, fun ρ w v => .agg (cProd.enc (gl zProd a0.ps s6)).toArray = v, fun ρ w v => ∃ v9, v9 = v ∧ O58 ρ w w0 9 v9 ([gl zProd a0.ps s6]), fun ρ w v => .pointer (some ((⟨g5, 0, none⟩ : Addr).add (0 + 4))) = v, fun ρ w v => v8 = v, fun ρ w v => vI s11 = v, fun ρ w v => (cutV v8 s11.toNat (s7.length : Int).toNat 27) = v ∧ Ro (kf cProd) w (cutV v8 s11.toNat (s7.length : Int).toNat 27) ((s7.take (s7.length : Int).toNat).drop s11.toNat)] ?_ hw ⟨o1, o2, o3, o4, o5⟩ hf ?_ ?_
    · intro ρ w ρ' w' hE hG
      obtain ⟨o1, o2, o3, o4, o5⟩ := hG
      exact ⟨o1.ext hE, o2.ext hE, o3.ext hE, o4.ext hE, o5.ext hE⟩
    · exact LastsL.cons (fun _ _ _ _ _ _ h => h) <| LastsL.cons (fun _ _ _ _ _ _ h => h) <| LastsL.cons (fun _ _ _ _ _ _ h => h) <| LastsL.cons (fun _ _ _ _ _ _ h => h) <| LastsL.cons (fun _ _ _ _ _ _ h => h) <| LastsL.cons (fun _ _ _ _ _ hE h => by obtain ⟨v9, h, o9⟩ := h; exact ⟨_, h, o9.ext hE⟩) <| LastsL.cons (fun _ _ _ _ _ _ h => h) <| LastsL.cons (fun _ _ _ _ _ _ h => h) <| LastsL.cons (fun _ _ _ _ _ _ h => h) <| LastsL.cons (fun _ _ _ _ _ hE h => by obtain ⟨h, o10⟩ := h; exact ⟨h, o10.ext hE⟩) <| LastsL.nil
    · refine StepsB.cons ?_ <| StepsB.cons ?_ <| StepsB.cons ?_ <| StepsB.cons ?_ <| StepsB.cons ?_ <| StepsB.cons ?_ <| StepsB.cons ?_ <| StepsB.cons ?_ <| StepsB.cons ?_ <| StepsB.cons ?_ <| StepsB.nil
      · intro ρ w a hw hG hf hd K hK
        obtain ⟨o1, o2, o3, o4, o5⟩ := hG
        exact dv_ hK hw (wn rfl) (r_fa fa28_4 hf rfl) rfl
      · intro ρ w a hw hG hf hd K hK
        obtain ⟨o1, o2, o3, o4, o5⟩ := hG
        obtain ⟨_, hf, rfl⟩ := got (hd 0 (by kernel_rfl)) hf
        exact dv_ hK hw (wn rfl) (r_load_cell ty26 hf rfl (o1.cl.at_ 4 _ rfl)) rfl
      · intro ρ w a hw hG hf hd K hK
        obtain ⟨o1, o2, o3, o4, o5⟩ := hG
        exact dv_ hK hw (wn rfl) (r_move hf rfl) rfl
      · intro ρ w a hw hG hf hd K hK
        obtain ⟨o1, o2, o3, o4, o5⟩ := hG
        obtain ⟨_, hf, rfl⟩ := got (hd 1 (by kernel_rfl)) hf
        obtain ⟨_, hf, rfl⟩ := got (hd 2 (by kernel_rfl)) hf
        exact dv_ hK hw (wn rfl) (r_idx Try.underlying26 sz58 hf rfl ⟨_, he23⟩ rfl hc22.1 hc22.2) rfl
      · intro ρ w a hw hG hf hd K hK
        obtain ⟨o1, o2, o3, o4, o5⟩ := hG
        obtain ⟨_, hf, rfl⟩ := got (hd 3 (by kernel_rfl)) hf
        exact dv_ hK hw (wn rfl) (r_load_agg ty58 hf rfl (hl23.below hw.below) (cProd.len _)) rfl
      · intro ρ w a hw hG hf hd K hK
        obtain ⟨o1, o2, o3, o4, o5⟩ := hG
        obtain ⟨_, hf, rfl⟩ := got (hd 4 (by kernel_rfl)) hf
        refine dx_ hK hw (wn rfl) (r_lit (d := cProd) (xs := ([gl zProd a0.ps s6] : List Prod)) (vs := [.agg (cProd.enc (gl zProd a0.ps s6)).toArray]) 9 Try.underlying26 el58 (Nat.le_of_ble_eq_true rfl) (Nat.le_of_ble_eq_true rfl) hw hf rfl rfl rfl) fun v9 w' hΦ => ?_
        obtain ⟨ρ, hw, hE, o9⟩ := hΦ
        exact ⟨_, hw, hE, ex_ <| an_ rfl <| o9⟩
      · intro ρ w a hw hG hf hd K hK
        obtain ⟨o1, o2, o3, o4, o5⟩ := hG
        exact dv_ hK hw (wn rfl) (r_fa fa28_4 hf rfl) rfl
      · intro ρ w a hw hG hf hd K hK
        obtain ⟨o1, o2, o3, o4, o5⟩ := hG
        obtain ⟨_, hf, rfl⟩ := got (hd 6 (by kernel_rfl)) hf
        exact dv_ hK hw (wn rfl) (r_load_cell ty26 hf rfl (o5.cl.at_ 4 _ rfl)) rfl
      · intro ρ w a hw hG hf hd K hK
        obtain ⟨o1, o2, o3, o4, o5⟩ := hG
        exact dv_ hK hw (wn rfl) (r_move hf rfl) rfl
      · intro ρ w a hw hG hf hd K hK
        obtain ⟨o1, o2, o3, o4, o5⟩ := hG
        obtain ⟨_, hf, rfl⟩ := got (hd 7 (by kernel_rfl)) hf
        obtain ⟨_, hf, rfl⟩ := got (hd 8 (by kernel_rfl)) hf
        have o10 : Ro (kf cProd) w (cutV v8 s11.toNat (s7.length : Int).toNat 27) ((s7.take (s7.length : Int).toNat).drop s11.toNat) := ro_cutV o4.ro hc24.1 hc24.2 (Int.le_refl _)
        exact dv_ hK hw (wn rfl) (r_cut_v (lo := s11) (hi := (s7.length : Int)) Try.underlying26 sz58 rfl o4.ro hf rfl (.inr ⟨_, rfl, rfl⟩) (.inl ⟨rfl, rfl⟩) hc24.1 hc24.2 (Int.le_refl _)) (an_ rfl <| o10)
    intro ρ w a hw hG hf hd
    obtain ⟨o1, o2, o3, o4, o5⟩ := hG
    obtain ⟨_, hf, ⟨v9, rfl, o9⟩⟩ := got (hd 5 (by decide)) hf
    obtain ⟨_, hf, ⟨rfl, o10⟩⟩ := got (hd 9 (by decide)) hf
    obtain ⟨hc25, hF⟩ := of_guard hF
    refine sx_ hf (r_append Try.underlying26 el58 hw (by decide) o9 o10 hc25 hf rfl rfl) fun a va26 w hf hΦ => ?_
    obtain ⟨ρ, hw, hA, o9⟩ := hΦ
    replace o1 := o1.adv hA (by decide)
    replace o2 := o2.adv hA (by decide)
    replace o3 := o3.adv hA (by decide)
    replace o4 := o4.adv hA (by decide)
    replace o5 := o5.adv hA (by decide)
    refine s_ hf (r_assign hf rfl) fun a hf => ?_
    refine c_nt <| c_region ?_
    refine sx_ hf (r_lit (d := cProd) (xs := ([] : List Prod)) (vs := []) 11 Try.underlying26 el58 (Nat.le_of_ble_eq_true rfl) (Nat.le_of_ble_eq_true rfl) hw hf rfl rfl rfl) fun a v11 w hf hΦ => ?_
    obtain ⟨ρ, hw, hE, o11⟩ := hΦ
    replace o1 := o1.ext hE
    replace o2 := o2.ext hE
    replace o3 := o3.ext hE
    replace o4 := o4.ext hE
    replace o5 := o5.ext hE
    replace o9 := o9.ext hE
    refine s_ hf (r_fa fa28_4 hf rfl) fun a hf => ?_
    refine s_ hf (r_load_cell ty26 hf rfl (o5.cl.at_ 4 _ rfl)) fun a hf => ?_
    refine s_ hf (r_move hf rfl) fun a hf => ?_
    obtain ⟨hc27, hF⟩ := of_guard hF
    have o12 : Ro (kf cProd) w (cutV v8 (0 : Int).toNat s11.toNat 27) ((s7.take s11.toNat).drop (0 : Int).toNat) := ro_cutV o4.ro (Int.le_refl 0) hc27.1 hc27.2
    refine s_ hf (r_cut_v (lo := 0) (hi := s11) Try.underlying26 sz58 rfl o4.ro hf rfl (.inl ⟨rfl, rfl⟩) (.inr ⟨_, rfl, rfl⟩) (Int.le_refl 0) hc27.1 hc27.2) fun a hf => ?_
    obtain ⟨hc28, hF⟩ := of_guard hF
    refine sx_ hf (r_append Try.underlying26 el58 hw (by decide) o11 o12 hc28 hf rfl rfl) fun a va29 w hf hΦ => ?_
    obtain ⟨ρ, hw, hA, o11⟩ := hΦ
    replace o1 := o1.adv hA (by decide)
    replace o2 := o2.adv hA (by decide)
    replace o3 := o3.adv hA (by decide)
    replace o4 := o4.adv hA (by decide)
    replace o5 := o5.adv hA (by decide)
    replace o9 := o9.adv hA (by decide)
    refine s_ hf (r_move hf rfl) fun a hf => ?_
    obtain ⟨hc30, hF⟩ := of_guard hF
    refine sx_ hf (r_append Try.underlying26 el58 hw (by decide) o11 o9.ro hc30 hf rfl rfl) fun a va31 w hf hΦ => ?_
    obtain ⟨ρ, hw, hA, o11⟩ := hΦ
    replace o1 := o1.adv hA (by decide)
    replace o2 := o2.adv hA (by decide)
    replace o3 := o3.adv hA (by decide)
    replace o4 := o4.adv hA (by decide)
    replace o5 := o5.adv hA (by decide)
    replace o9 := o9.adv hA (by decide)
    refine s_ hf (r_fa fa28_4 hf rfl) fun a hf => ?_
    refine sk_ hf (r_store_c hw o5 (by decide) ty26 (Nat.le_of_ble_eq_true rfl) hf rfl rfl o11.ro.cells1 o11.ro.one) fun a w hf hΦ => ?_
    obtain ⟨hw, hA, o5⟩ := hΦ
    replace o1 := o1.adv hA (by decide)
    replace o2 := o2.adv hA (by decide)
    replace o3 := o3.adv hA (by decide)
    replace o4 := o4.adv hA (by decide)
    replace o9 := o9.adv hA (by decide)
    replace o11 := o11.adv hA (by decide)
    replace o5 : Va ρ w 5 g5 28 ([vI x1.p, vI x1.n, vI x1.m, vI x1.k, va31]) := o5
    refine c_nil <| n_block <| n_then <| c_region ?_
    refine s_ hf (r_move hf rfl) fun a hf => ?_
    refine s_ hf (r_add hf rfl rfl) fun a hf => ?_
    refine s_ hf (r_assign hf rfl) fun a hf => ?_
    refine c_nil ?_
    obtain rfl := Option.some.inj hF
    replace o1 := o1.tr (Tr.relab (j := 11) (b := 4) (by decide))
    replace o2 := o2.tr (Tr.relab (j := 11) (b := 4) (by decide))
    replace o3 := o3.tr (Tr.relab (j := 11) (b := 4) (by decide))
    replace o5 := o5.tr (Tr.relab (j := 11) (b := 4) (by decide))
    replace o11 := o11.relab 4
    replace hw := hw.relab (j := 11) (by decide) 4
    exact Rnd.goes ⟨_, _, hw, hf.sub ⟨rfl, rfl, rfl, rfl, trivial⟩, o1, o2, o3, o11, o5⟩
  rintro ⟨s6, s7⟩ a w hs ⟨ρ, v8, hw, hf, o2, o3, o4, o5⟩
  subst hs
  have hF := hG5
  dsimp only at hF
  refine x_block <| n_then <| c_seq <| c_region ?_
  refine s_ hf (r_load_agg ty28 hf rfl o5.cl rfl) fun a hf => ?_
  refine sk_ hf (r_store_w (cs' := [vI x1.p, vI x1.n, vI x1.m, vI x1.k, v8]) hw o2 (by decide) ty28 rfl rfl (one_sch o4.ro.one) hf rfl rfl rfl) fun a w hf hΦ => ?_
  obtain ⟨hw, hA, o2⟩ := hΦ
  replace o3 := o3.adv hA (by decide)
  replace o4 := o4.adv hA (by decide)
  replace o5 := o5.adv hA (by decide)
  refine c_nt <| c_retc ?_
  obtain rfl := Option.some.inj hF
  refine c_ret hf (res_cell Try.results36 ty28 hf rfl o2.cl rfl) ?_
  exact ⟨_, rfl, hw.below, ⟨_, rfl, o4.out⟩⟩
/-! f11 -/
noncomputable def spec_SortScheme (a0 : Sch) : Option (Sch × Int) :=
  (spec_l01Is a0).bind fun x1 => if (!x1) = true then (some (((⟨0, 0, 0, 0, ([] : List Prod)⟩ : Sch), 1))) else ((spec_l01Sorted a0).bind fun x4 => some ((x4, 0)))
theorem spec_SortScheme_ok {w0 : World} {a0 : Sch} {va0 : Value} (h0 : Ro (kf cProd) w0 va0 a0.ps) {r : Sch × Int} (hF : spec_SortScheme a0 = some r) :
    Calls Try.prog 11 [.agg ([vI a0.p, vI a0.n, vI a0.m, vI a0.k, va0]).toArray].toArray w0 fun e w => ∃ v, e = .returned v ∧ Below w0.heap.size w0 w ∧ ∃ u0, .tuple #[.agg [.int .i64 r.1.p, .int .i64 r.1.n, .int .i64 r.1.m, .int .i64 r.1.k, u0].toArray, .int .i64 r.2] = v ∧ Fresh (kf cProd) 58 w0 w u0 r.1.ps := by
  refine calls_of (k := 10) Try.func11 rfl rfl (Nat.le_of_ble_eq_true rfl) fun a hf => ?_
  replace hf : Fr 10 a [(0, .agg ([vI a0.p, vI a0.n, vI a0.m, vI a0.k, va0]).toArray)] := hf
  refine c_start fun w ρ hw => ?_
  unfold spec_SortScheme at hF
  refine c_seq <| c_region ?_
  refine sx_ hf (r_box (cs := [vI a0.p, vI a0.n, vI a0.m, vI a0.k, va0]) 1 hw hf rfl rfl) fun a v w hf hΦ => ?_
  obtain ⟨g1, ρ, rfl, hw, hE, o1⟩ := hΦ
  have o3 : Ow (kf cProd) 58 ρ w w0.heap.size 3 (.slice none 0 0) [] := Ow.nil _ _ _ _ _ _
  refine sx_ hf (r_alloc (cs := [vI 0, vI 0, vI 0, vI 0, (.slice none 0 0)]) 2 ze28 rfl hw) fun a v w hf hΦ => ?_
  obtain ⟨g2, ρ, rfl, hw, hE, o2⟩ := hΦ
  replace o1 := o1.ext hE
  replace o3 := o3.ext hE
  refine s_ hf (r_assign hf rfl) fun a hf => ?_
  refine c_nt <| c_seq <| c_seq <| c_region ?_
  refine s_ hf (r_load_agg ty28 hf rfl o1.cl rfl) fun a hf => ?_
  obtain ⟨x1, hx2, hF⟩ := of_bind hF
  refine st_fn 4 hw hf rfl rfl (by decide) (r_fn en35 hf rfl) (spec_l01Is_ok (a0 := a0) (h0.now hw) hx2) fun a v w ρ hf hw hE hN hΦ => ?_
  obtain rfl := hΦ
  replace o1 := o1.ext hE
  replace o3 := o3.ext hE
  replace o2 := o2.ext hE
  refine s_ hf (r_not hf rfl) fun a hf => ?_
  refine c_nt ?_
  rcases of_ite hF with ⟨hb3, hF⟩ | ⟨hb3, hF⟩
  · refine c_ift hf rfl hb3 <| c_seq <| c_region ?_
    have o5 : Ow (kf cProd) 58 ρ w w0.heap.size 5 (.slice none 0 0) [] := Ow.nil _ _ _ _ _ _
    refine s_ hf (r_build_struct (pl := [(0, 1), (1, 1), (2, 1), (3, 1), (4, 1)]) (vs := []) (res := ([vI 0, vI 0, vI 0, vI 0, (.slice none 0 0)]).toArray) Try.underlying28 (by kernel_rfl) ze28 hf rfl rfl rfl) fun a hf => ?_
    refine sk_ hf (r_store_w (cs' := [vI 0, vI 0, vI 0, vI 0, (.slice none 0 0)]) hw o2 (by decide) ty28 rfl rfl (one_sch o5.ro.one) hf rfl rfl rfl) fun a w hf hΦ => ?_
    obtain ⟨hw, hA, o2⟩ := hΦ
    replace o1 := o1.adv hA (by decide)
    replace o3 := o3.adv hA (by decide)
    replace o5 := o5.adv hA (by decide)
    refine s_ hf (r_assign hf rfl) fun a hf => ?_
    refine c_nt <| c_retc ?_
    obtain rfl := Option.some.inj hF
    refine r_then <| c_ret hf (res_ct Try.results11 ty28 hf rfl o2.cl rfl rfl) ?_
    exact ⟨_, rfl, hw.below, ⟨_, rfl, o5.out⟩⟩
  refine c_iff hf rfl hb3 <| c_skip <| n_then <| c_seq <| c_region ?_
  refine s_ hf (r_load_agg ty28 hf rfl o1.cl rfl) fun a hf => ?_
  obtain ⟨x4, hx5, hF⟩ := of_bind hF
  refine st_fn 6 hw hf rfl rfl (by decide) (r_fn en36 hf rfl) (spec_l01Sorted_ok (a0 := a0) (h0.now hw) hx5) fun a v w ρ hf hw hE hN hΦ => ?_
  obtain ⟨u6, rfl, hr7⟩ := hΦ
  replace o1 := o1.ext hE
  replace o3 := o3.ext hE
  replace o2 := o2.ext hE
  have o6 := hN hr7
  refine sk_ hf (r_store_w (cs' := [vI x4.p, vI x4.n, vI x4.m, vI x4.k, u6]) hw o2 (by decide) ty28 rfl rfl (one_sch o6.ro.one) hf rfl rfl rfl) fun a w hf hΦ => ?_
  obtain ⟨hw, hA, o2⟩ := hΦ
  replace o1 := o1.adv hA (by decide)
  replace o3 := o3.adv hA (by decide)
  replace o6 := o6.adv hA (by decide)
  refine s_ hf (r_assign hf rfl) fun a hf => ?_
  refine c_nt <| c_retc ?_
  obtain rfl := Option.some.inj hF
  refine c_ret hf (res_ct Try.results11 ty28 hf rfl o2.cl rfl rfl) ?_
  exact ⟨_, rfl, hw.below, ⟨_, rfl, o6.out⟩⟩
/-! f80 -/
noncomputable def slices_Clone_80 (a0 : List Prod) : Option (List Prod) :=
  if (([] : List Prod).length + a0.length) * 27 ≤ 140737488355328 then (some ((([] : List Prod) ++ a0))) else none
theorem slices_Clone_80_ok {w0 : World} {a0 : List Prod} {va0 : Value} (h0 : Ro (kf cProd) w0 va0 a0) {r : List Prod} (hF : slices_Clone_80 a0 = some r) :
    Calls Try.prog 80 [va0].toArray w0 fun e w => ∃ v, e = .returned v ∧ Below w0.heap.size w0 w ∧ ∃ u0, u0 = v ∧ Fresh (kf cProd) 58 w0 w u0 r := by
  refine calls_of (k := 8) Try.func80 rfl rfl (Nat.le_of_ble_eq_true rfl) fun a hf => ?_
  replace hf : Fr 8 a [(0, va0)] := hf
  refine c_start fun w ρ hw => ?_
  unfold slices_Clone_80 at hF
  refine c_seq <| c_region ?_
  have o1 : Ow (kf cProd) 58 ρ w w0.heap.size 1 (.slice none 0 0) [] := Ow.nil _ _ _ _ _ _
  refine s_ hf (r_assign hf rfl) fun a hf => ?_
  refine c_nt <| c_seq <| c_seq <| c_region ?_
  refine s_ hf (r_move hf rfl) fun a hf => ?_
  rcases Ro.nil_or (h0.now hw) with hn1 | hn1
  · replace hF := (show (some (([] : List Prod))) = (if (([] : List Prod).length + a0.length) * 27 ≤ 140737488355328 then (some ((([] : List Prod) ++ a0))) else none) from by simp [hn1.2]).trans hF
    refine s_ hf (r_isnil hf rfl hn1.1 rfl Try.underlying26) fun a hf => ?_
    refine c_nt <| c_true hf rfl <| c_seq <| c_region ?_
    have o2 : Ow (kf cProd) 58 ρ w w0.heap.size 2 (.slice none 0 0) [] := Ow.nil _ _ _ _ _ _
    refine s_ hf (r_assign hf rfl) fun a hf => ?_
    refine c_nt <| c_retc ?_
    obtain rfl := Option.some.inj hF
    refine r_then <| c_ret hf (res_tmp Try.results80 hf rfl) ?_
    exact ⟨_, rfl, hw.below, ⟨_, rfl, o2.out⟩⟩
  · refine s_ hf (r_nonil hf rfl hn1 rfl Try.underlying26) fun a hf => ?_
    refine c_nt <| c_false hf rfl <| c_skip <| n_then <| c_seq <| c_region ?_
    refine sx_ hf (r_lit (d := cProd) (xs := ([] : List Prod)) (vs := []) 3 Try.underlying26 el58 (Nat.le_of_ble_eq_true rfl) (Nat.le_of_ble_eq_true rfl) hw hf rfl rfl rfl) fun a v3 w hf hΦ => ?_
    obtain ⟨ρ, hw, hE, o3⟩ := hΦ
    replace o1 := o1.ext hE
    refine s_ hf (r_move hf rfl) fun a hf => ?_
    obtain ⟨hc2, hF⟩ := of_guard hF
    refine sx_ hf (r_append Try.underlying26 el58 hw (by decide) o3 (h0.now hw) hc2 hf rfl rfl) fun a va3 w hf hΦ => ?_
    obtain ⟨ρ, hw, hA, o3⟩ := hΦ
    replace o1 := o1.adv hA (by decide)
    refine s_ hf (r_assign hf rfl) fun a hf => ?_
    refine c_nt <| c_retc ?_
    obtain rfl := Option.some.inj hF
    refine c_ret hf (res_tmp Try.results80 hf rfl) ?_
    exact ⟨_, rfl, hw.below, ⟨_, rfl, o3.out⟩⟩
/-! f81s82 -/
def sort81_ren : Go.Shelf.Ren := ⟨fun | 6 => 81 | 15 => 94 | 14 => 118 | 28 => 138 | 29 => 139 | 20 => 147 | 21 => 148 | 22 => 149 | 23 => 150 | 24 => 151 | 25 => 152 | 26 => 153 | 27 => 154 | 46 => 163 | 47 => 158 | 48 => 159 | 49 => 164 | 50 => 165 | 57 => 168 | n => n, fun | 22 => 26 | 24 => 58 | 25 => 89 | 3 => 3 | 39 => 99 | 0 => 0 | 53 => 137 | 55 => 139 | 4 => 4 | 46 => 130 | 45 => 129 | 50 => 134 | 5 => 5 | 9 => 9 | 66 => 149 | 70 => 153 | 76 => 159 | 77 => 160 | n => n, fun n => n⟩
theorem sort81 : SlLaysF0.n6 Try.prog sort81_ren where
  mixed := by kernel_rfl
  f6 := ⟨"slices.SortFunc[[]loop.example/g01262/impl.Product,loop.example/g01262/impl.Product]", by decide, Try.func81.trans (congrArg some (by kernel_rfl))⟩
  f14 := ⟨"slices.pdqsortCmpFunc[loop.example/g01262/impl.Product]", by decide, Try.func118.trans (congrArg some (by kernel_rfl))⟩
  f15 := Try.func94.trans (congrArg some (by kernel_rfl))
  f20 := ⟨"slices.insertionSortCmpFunc[loop.example/g01262/impl.Product]", by decide, Try.func147.trans (congrArg some (by kernel_rfl))⟩
  f21 := ⟨"slices.heapSortCmpFunc[loop.example/g01262/impl.Product]", by decide, Try.func148.trans (congrArg some (by kernel_rfl))⟩
  f22 := ⟨"slices.breakPatternsCmpFunc[loop.example/g01262/impl.Product]", by decide, Try.func149.trans (congrArg some (by kernel_rfl))⟩
  f23 := ⟨"slices.choosePivotCmpFunc[loop.example/g01262/impl.Product]", by decide, Try.func150.trans (congrArg some (by kernel_rfl))⟩
  f24 := ⟨"slices.reverseRangeCmpFunc[loop.example/g01262/impl.Product]", by decide, Try.func151.trans (congrArg some (by kernel_rfl))⟩
  f25 := ⟨"slices.partialInsertionSortCmpFunc[loop.example/g01262/impl.Product]", by decide, Try.func152.trans (congrArg some (by kernel_rfl))⟩
  f26 := ⟨"slices.partitionEqualCmpFunc[loop.example/g01262/impl.Product]", by decide, Try.func153.trans (congrArg some (by kernel_rfl))⟩
  f27 := ⟨"slices.partitionCmpFunc[loop.example/g01262/impl.Product]", by decide, Try.func154.trans (congrArg some (by kernel_rfl))⟩
  f28 := Try.func138.trans (congrArg some (by kernel_rfl))
  f29 := Try.func139.trans (congrArg some (by kernel_rfl))
  f46 := ⟨"slices.siftDownCmpFunc[loop.example/g01262/impl.Product]", by decide, Try.func163.trans (congrArg some (by kernel_rfl))⟩
  f47 := Try.func158.trans (congrArg some (by kernel_rfl))
  f48 := Try.func159.trans (congrArg some (by kernel_rfl))
  f49 := ⟨"slices.medianAdjacentCmpFunc[loop.example/g01262/impl.Product]", by decide, Try.func164.trans (congrArg some (by kernel_rfl))⟩
  f50 := ⟨"slices.medianCmpFunc[loop.example/g01262/impl.Product]", by decide, Try.func165.trans (congrArg some (by kernel_rfl))⟩
  f57 := ⟨"slices.order2CmpFunc[loop.example/g01262/impl.Product]", by decide, Try.func168.trans (congrArg some (by kernel_rfl))⟩
  t0 := Try.underlying0
  a0 := Try.isAgg0
  z0 := Try.sizeOf0
  v0 := Try.zeroValue0
  t3 := Try.underlying3
  a3 := Try.isAgg3
  z3 := Try.sizeOf3
  v3 := Try.zeroValue3
  t4 := Try.underlying4
  a4 := Try.isAgg4
  z4 := Try.sizeOf4
  v4 := Try.zeroValue4
  t5 := Try.underlying5
  a5 := Try.isAgg5
  z5 := Try.sizeOf5
  v5 := Try.zeroValue5
  t9 := Try.underlying9
  a9 := Try.isAgg9
  z9 := Try.sizeOf9
  v9 := Try.zeroValue9
  t22 := Try.underlying26
  a22 := Try.isAgg26
  z22 := Try.sizeOf26
  v22 := Try.zeroValue26
  t25 := Try.underlying89
  a25 := Try.isAgg89
  z25 := Try.sizeOf89
  v25 := Try.zeroValue89
  t39 := Try.underlying99
  a39 := Try.isAgg99
  z39 := Try.sizeOf99
  v39 := Try.zeroValue99
  t45 := Try.underlying129
  a45 := Try.isAgg129
  z45 := Try.sizeOf129
  v45 := Try.zeroValue129
  t46 := Try.underlying130
  a46 := Try.isAgg130
  z46 := Try.sizeOf130
  v46 := Try.zeroValue130
  t50 := Try.underlying134
  a50 := Try.isAgg134
  z50 := Try.sizeOf134
  v50 := Try.zeroValue134
  t53 := Try.underlying137
  a53 := Try.isAgg137
  z53 := Try.sizeOf137
  v53 := Try.zeroValue137
  t55 := Try.underlying139
  a55 := Try.isAgg139
  z55 := Try.sizeOf139
  v55 := Try.zeroValue139
  t66 := Try.underlying149
  a66 := Try.isAgg149
  z66 := Try.sizeOf149
  v66 := Try.zeroValue149
  t70 := Try.underlying153
  a70 := Try.isAgg153
  z70 := Try.sizeOf153
  v70 := Try.zeroValue153
  t76 := Try.underlying159
  a76 := Try.isAgg159
  z76 := Try.sizeOf159
  v76 := Try.zeroValue159
  t77 := Try.underlying160
  a77 := Try.isAgg160
  z77 := Try.sizeOf160
  v77 := Try.zeroValue160
noncomputable def slices_SortFunc_81_f82 (a0 : List Prod) : Option (List Prod) :=
  sortBy impl_compareProducts a0
theorem slices_SortFunc_81_f82_ok {w0 ws : World} {ρ0 : Nat → Nat} {i : Nat} (hi : i ≠ 0) (hW : Wd w0 ρ0 ws) {a0 : List Prod} {va0 : Value} (h0 : Ow (kf cProd) 58 ρ0 ws w0.heap.size i va0 a0) {r : List Prod} (hF : slices_SortFunc_81_f82 a0 = some r) :
    Calls Try.prog 81 [va0, .func (.func 82) #[] #[]].toArray ws fun e w => ∃ v, e = .returned v ∧ ∃ ρ', Wd w0 ρ' w ∧ Adv i ρ0 ws ρ' w ∧ .tuple #[] = v ∧ Ow (kf cProd) 58 ρ' w w0.heap.size i va0 r :=
  sort_ok sort81 rfl Try.isAgg58 Try.sizeOf58 (enters_of Try.func82 (by kernel_rfl) rfl) (fun x y r W h => (impl_compareProducts_ok h).mono fun e w ⟨v, h1, h2, h3⟩ => ⟨v, h1, h2, h3.symm⟩) hi hW h0 hF (by decide)
/-! f39 -/
noncomputable def impl_sorted (a0 : Sch) : Option Sch :=
  (slices_Clone_80 a0.ps).bind fun x1 => (slices_SortFunc_81_f82 x1).bind fun x5 => (impl_with a0 x5).bind fun x7 => some (x7)
theorem impl_sorted_ok {w0 : World} {a0 : Sch} {va0 : Value} (h0 : Ro (kf cProd) w0 va0 a0.ps) {r : Sch} (hF : impl_sorted a0 = some r) :
    Calls Try.prog 39 [.agg ([vI a0.p, vI a0.n, vI a0.m, vI a0.k, va0]).toArray].toArray w0 fun e w => ∃ v, e = .returned v ∧ Below w0.heap.size w0 w ∧ ∃ u0, .agg [.int .i64 r.p, .int .i64 r.n, .int .i64 r.m, .int .i64 r.k, u0].toArray = v ∧ Fresh (kf cProd) 58 w0 w u0 r.ps := by
  refine calls_of (k := 12) Try.func39 rfl rfl (Nat.le_of_ble_eq_true rfl) fun a hf => ?_
  replace hf : Fr 12 a [(0, .agg ([vI a0.p, vI a0.n, vI a0.m, vI a0.k, va0]).toArray)] := hf
  refine c_start fun w ρ hw => ?_
  unfold impl_sorted at hF
  refine c_seq <| c_region ?_
  refine sx_ hf (r_box (cs := [vI a0.p, vI a0.n, vI a0.m, vI a0.k, va0]) 1 hw hf rfl rfl) fun a v w hf hΦ => ?_
  obtain ⟨g1, ρ, rfl, hw, hE, o1⟩ := hΦ
  have o3 : Ow (kf cProd) 58 ρ w w0.heap.size 3 (.slice none 0 0) [] := Ow.nil _ _ _ _ _ _
  refine sx_ hf (r_alloc (cs := [vI 0, vI 0, vI 0, vI 0, (.slice none 0 0)]) 2 ze28 rfl hw) fun a v w hf hΦ => ?_
  obtain ⟨g2, ρ, rfl, hw, hE, o2⟩ := hΦ
  replace o1 := o1.ext hE
  replace o3 := o3.ext hE
  refine c_nt <| c_seq <| c_region ?_
  refine s_ hf (r_fa fa28_4 hf rfl) fun a hf => ?_
  refine s_ hf (r_load_cell ty26 hf rfl (o1.cl.at_ 4 _ rfl)) fun a hf => ?_
  obtain ⟨x1, hx2, hF⟩ := of_bind hF
  refine st_fn 4 hw hf rfl rfl (by decide) (r_fn en80 hf rfl) (slices_Clone_80_ok (h0.now hw) hx2) fun a v w ρ hf hw hE hN hΦ => ?_
  obtain ⟨u3, rfl, hr4⟩ := hΦ
  replace o1 := o1.ext hE
  replace o3 := o3.ext hE
  replace o2 := o2.ext hE
  have o4 := hN hr4
  refine s_ hf (r_assign hf rfl) fun a hf => ?_
  refine c_nt <| c_seq <| c_region ?_
  refine s_ hf (r_move hf rfl) fun a hf => ?_
  obtain ⟨x5, hx6, hF⟩ := of_bind hF
  refine st_mfn hf rfl rfl (by decide) (r_fn en81 hf rfl) (slices_SortFunc_81_f82_ok (by decide) hw o4 hx6) fun a v w ρ hf hw hA hΦ => ?_
  obtain ⟨rfl, o4⟩ := hΦ
  replace o1 := o1.adv hA (by decide)
  replace o3 := o3.adv hA (by decide)
  replace o2 := o2.adv hA (by decide)
  refine c_nt <| c_seq <| c_region ?_
  refine s_ hf (r_load_agg ty28 hf rfl o1.cl rfl) fun a hf => ?_
  refine s_ hf (r_move hf rfl) fun a hf => ?_
  obtain ⟨x7, hx8, hF⟩ := of_bind hF
  refine st_mfn hf rfl rfl (by decide) (r_fn en83 hf rfl) (impl_with_ok (a0 := a0) (by decide) hw h0 o4 hx8) fun a v w ρ hf hw hA hΦ => ?_
  obtain ⟨u9, rfl, o4⟩ := hΦ
  replace o1 := o1.adv hA (by decide)
  replace o3 := o3.adv hA (by decide)
  replace o2 := o2.adv hA (by decide)
  refine sk_ hf (r_store_w (cs' := [vI x7.p, vI x7.n, vI x7.m, vI x7.k, u9]) hw o2 (by decide) ty28 rfl rfl (one_sch o4.ro.one) hf rfl rfl rfl) fun a w hf hΦ => ?_
  obtain ⟨hw, hA, o2⟩ := hΦ
  replace o1 := o1.adv hA (by decide)
  replace o3 := o3.adv hA (by decide)
  replace o4 := o4.adv hA (by decide)
  refine c_nt <| c_retc ?_
  obtain rfl := Option.some.inj hF
  refine c_ret hf (res_cell Try.results39 ty28 hf rfl o2.cl rfl) ?_
  exact ⟨_, rfl, hw.below, ⟨_, rfl, o4.out⟩⟩
/-! f13 -/
noncomputable def impl_SortScheme (a0 : Sch) : Option (Sch × Int) :=
  (impl_IsScheme a0).bind fun x1 => if (!x1) = true then (some (((⟨0, 0, 0, 0, ([] : List Prod)⟩ : Sch), 1))) else ((impl_sorted a0).bind fun x4 => some ((x4, 0)))
theorem impl_SortScheme_ok {w0 : World} {a0 : Sch} {va0 : Value} (h0 : Ro (kf cProd) w0 va0 a0.ps) {r : Sch × Int} (hF : impl_SortScheme a0 = some r) :
    Calls Try.prog 13 [.agg ([vI a0.p, vI a0.n, vI a0.m, vI a0.k, va0]).toArray].toArray w0 fun e w => ∃ v, e = .returned v ∧ Below w0.heap.size w0 w ∧ ∃ u0, .tuple #[.agg [.int .i64 r.1.p, .int .i64 r.1.n, .int .i64 r.1.m, .int .i64 r.1.k, u0].toArray, .int .i64 r.2] = v ∧ Fresh (kf cProd) 58 w0 w u0 r.1.ps := by
  refine calls_of (k := 10) Try.func13 rfl rfl (Nat.le_of_ble_eq_true rfl) fun a hf => ?_
  replace hf : Fr 10 a [(0, .agg ([vI a0.p, vI a0.n, vI a0.m, vI a0.k, va0]).toArray)] := hf
  refine c_start fun w ρ hw => ?_
  unfold impl_SortScheme at hF
  refine c_seq <| c_region ?_
  refine sx_ hf (r_box (cs := [vI a0.p, vI a0.n, vI a0.m, vI a0.k, va0]) 1 hw hf rfl rfl) fun a v w hf hΦ => ?_
  obtain ⟨g1, ρ, rfl, hw, hE, o1⟩ := hΦ
  have o3 : Ow (kf cProd) 58 ρ w w0.heap.size 3 (.slice none 0 0) [] := Ow.nil _ _ _ _ _ _
  refine sx_ hf (r_alloc (cs := [vI 0, vI 0, vI 0, vI 0, (.slice none 0 0)]) 2 ze28 rfl hw) fun a v w hf hΦ => ?_
  obtain ⟨g2, ρ, rfl, hw, hE, o2⟩ := hΦ
  replace o1 := o1.ext hE
  replace o3 := o3.ext hE
  refine s_ hf (r_assign hf rfl) fun a hf => ?_
  refine c_nt <| c_seq <| c_seq <| c_region ?_
  refine s_ hf (r_load_agg ty28 hf rfl o1.cl rfl) fun a hf => ?_
  obtain ⟨x1, hx2, hF⟩ := of_bind hF
  refine st_fn 4 hw hf rfl rfl (by decide) (r_fn en38 hf rfl) (impl_IsScheme_ok (a0 := a0) (h0.now hw) hx2) fun a v w ρ hf hw hE hN hΦ => ?_
  obtain rfl := hΦ
  replace o1 := o1.ext hE
  replace o3 := o3.ext hE
  replace o2 := o2.ext hE
  refine s_ hf (r_not hf rfl) fun a hf => ?_
  refine c_nt ?_
  rcases of_ite hF with ⟨hb3, hF⟩ | ⟨hb3, hF⟩
  · refine c_ift hf rfl hb3 <| c_seq <| c_region ?_
    have o5 : Ow (kf cProd) 58 ρ w w0.heap.size 5 (.slice none 0 0) [] := Ow.nil _ _ _ _ _ _
    refine s_ hf (r_build_struct (pl := [(0, 1), (1, 1), (2, 1), (3, 1), (4, 1)]) (vs := []) (res := ([vI 0, vI 0, vI 0, vI 0, (.slice none 0 0)]).toArray) Try.underlying28 (by kernel_rfl) ze28 hf rfl rfl rfl) fun a hf => ?_
    refine sk_ hf (r_store_w (cs' := [vI 0, vI 0, vI 0, vI 0, (.slice none 0 0)]) hw o2 (by decide) ty28 rfl rfl (one_sch o5.ro.one) hf rfl rfl rfl) fun a w hf hΦ => ?_
    obtain ⟨hw, hA, o2⟩ := hΦ
    replace o1 := o1.adv hA (by decide)
    replace o3 := o3.adv hA (by decide)
    replace o5 := o5.adv hA (by decide)
    refine s_ hf (r_assign hf rfl) fun a hf => ?_
    refine c_nt <| c_retc ?_
    obtain rfl := Option.some.inj hF
    refine r_then <| c_ret hf (res_ct Try.results13 ty28 hf rfl o2.cl rfl rfl) ?_
    exact ⟨_, rfl, hw.below, ⟨_, rfl, o5.out⟩⟩
  refine c_iff hf rfl hb3 <| c_skip <| n_then <| c_seq <| c_region ?_
  refine s_ hf (r_load_agg ty28 hf rfl o1.cl rfl) fun a hf => ?_
  obtain ⟨x4, hx5, hF⟩ := of_bind hF
  refine st_fn 6 hw hf rfl rfl (by decide) (r_fn en39 hf rfl) (impl_sorted_ok (a0 := a0) (h0.now hw) hx5) fun a v w ρ hf hw hE hN hΦ => ?_
  obtain ⟨u6, rfl, hr7⟩ := hΦ
  replace o1 := o1.ext hE
  replace o3 := o3.ext hE
  replace o2 := o2.ext hE
  have o6 := hN hr7
  refine sk_ hf (r_store_w (cs' := [vI x4.p, vI x4.n, vI x4.m, vI x4.k, u6]) hw o2 (by decide) ty28 rfl rfl (one_sch o6.ro.one) hf rfl rfl rfl) fun a w hf hΦ => ?_
  obtain ⟨hw, hA, o2⟩ := hΦ
  replace o1 := o1.adv hA (by decide)
  replace o3 := o3.adv hA (by decide)
  replace o6 := o6.adv hA (by decide)
  refine s_ hf (r_assign hf rfl) fun a hf => ?_
  refine c_nt <| c_retc ?_
  obtain rfl := Option.some.inj hF
  refine c_ret hf (res_ct Try.results13 ty28 hf rfl o2.cl rfl rfl) ?_
  exact ⟨_, rfl, hw.below, ⟨_, rfl, o6.out⟩⟩
/-! f49 -/
noncomputable def spec_l04First_l1 (a0 : Form) (s2 : Int) : Option (LR Int Int) :=
  if (decide (s2 < 9)) = true then (if 0 ≤ s2 ∧ s2 < 9 then (if (decide (((vg 0 a0 s2).toNat : Int) ≠ 0)) = true then (some (.ret ((vg 0 a0 s2).toNat : Int))) else (some (.next (w64 (s2 + 1))))) else none) else (some (.stop s2))
noncomputable def spec_l04First (a0 : Form) : Option Int :=
  (iter (fun s => spec_l04First_l1 a0 s) 0).bind fun o => match o with | .stop s2 => (some (0)) | .ret r => some r | .next _ => none
theorem spec_l04First_ok {w0 : World} {a0 : Form}   {r : Int} (hF : spec_l04First a0 = some r) :
    Calls Try.prog 49 [.agg (cForm.enc a0).toArray].toArray w0 fun e w => ∃ v, e = .returned v ∧ Below w0.heap.size w0 w ∧ .int .i64 r = v := by
  refine calls_of (k := 16) Try.func49 rfl rfl (Nat.le_of_ble_eq_true rfl) fun a hf => ?_
  replace hf : Fr 16 a [(0, .agg (cForm.enc a0).toArray)] := hf
  refine c_start fun w ρ hw => ?_
  unfold spec_l04First at hF
  refine c_seq <| c_region ?_
  refine sx_ hf (r_box (cs := cForm.enc a0) 1 hw hf rfl rfl) fun a v w hf hΦ => ?_
  obtain ⟨g1, ρ, rfl, hw, hE, o1⟩ := hΦ
  refine s_ hf (r_assign hf rfl) fun a hf => ?_
  refine c_nt <| c_seq <| c_seq <| c_region ?_
  refine s_ hf (r_assign hf rfl) fun a hf => ?_
  refine c_nt ?_
  obtain ⟨ol1, ho1, hG1⟩ := of_bind hF
  clear hF
  refine c_block (c_loop (id := 0) (fun s => spec_l04First_l1 a0 s) (fun (s2 : Int) a w => ∃ ρ, Wd w0 ρ w ∧ Fr 16 a [(1, .pointer (some ((⟨g1, 0, none⟩ : Addr).add 0))), (3, vI s2)] ∧ Va ρ w 1 g1 56 (cForm.enc a0)) (fun (s2 : Int) a w => ∃ ρ, Wd w0 ρ w ∧ Fr 16 a []) ho1 ⟨_, hw, hf.sub ⟨rfl, rfl, trivial⟩, o1⟩ ?_ ?_)
  · rintro s2 lr a w ⟨ρ, hw, hf, o1⟩ hF
    replace hF : spec_l04First_l1 a0 s2 = some lr := hF
    unfold spec_l04First_l1 at hF
    refine c_seq <| c_seq <| c_region ?_
    refine s_ hf (r_move hf rfl) fun a hf => ?_
    refine s_ hf (r_lss hf rfl rfl) fun a hf => ?_
    refine c_nt ?_
    rcases of_ite hF with ⟨hb3, hF⟩ | ⟨hb3, hF⟩
    rotate_left
    · refine c_iff hf rfl hb3 <| c_exit <| x_then ?_
      obtain rfl := Option.some.inj hF
      exact Rnd.stops ⟨_, hw, hf.sub trivial⟩
    refine c_ift hf rfl hb3 <| c_skip <| n_then <| c_seq <| c_block <| c_seq <| c_region ?_
    refine s_ hf (r_move hf rfl) fun a hf => ?_
    obtain ⟨hc4, hF⟩ := of_guard hF
    refine s_ hf (r_indexAddr_arr Try.underlying56 sz5 hf rfl rfl hc4.1 hc4.2) fun a hf => ?_
    refine s_ hf (r_load_cell ty5 hf rfl (o1.cl.lens (Lens.vec 0 fU8 s2 hc4.1 hc4.2))) fun a hf => ?_
    refine s_ hf (r_neq hf rfl rfl) fun a hf => ?_
    refine c_nt ?_
    rcases of_ite hF with ⟨hb5, hF⟩ | ⟨hb5, hF⟩
    rotate_left
    · refine c_iff hf rfl hb5 <| c_skip <| n_block <| n_then <| c_region ?_
      refine s_ hf (r_move hf rfl) fun a hf => ?_
      refine s_ hf (r_add hf rfl rfl) fun a hf => ?_
      refine s_ hf (r_assign hf rfl) fun a hf => ?_
      refine c_nil ?_
      obtain rfl := Option.some.inj hF
      exact Rnd.goes ⟨_, hw, hf.sub ⟨rfl, rfl, trivial⟩, o1⟩
    refine c_ift hf rfl hb5 <| c_seq <| c_region ?_
    refine s_ hf (r_move hf rfl) fun a hf => ?_
    refine s_ hf (r_indexAddr_arr Try.underlying56 sz5 hf rfl rfl hc4.1 hc4.2) fun a hf => ?_
    refine s_ hf (r_load_cell ty5 hf rfl (o1.cl.lens (Lens.vec 0 fU8 s2 hc4.1 hc4.2))) fun a hf => ?_
    refine s_ hf (r_conv_u8_i64 Try.underlying5 Try.underlying2 hf rfl) fun a hf => ?_
    refine s_ hf (r_assign hf rfl) fun a hf => ?_
    refine c_nt <| c_retc ?_
    obtain rfl := Option.some.inj hF
    refine r_block <| r_then ?_
    refine Rnd.rets fun ho => ?_
    subst ho
    have hF := hG1
    dsimp only at hF
    obtain rfl := Option.some.inj hF
    refine r_block <| r_then <| c_ret hf (res_tmp Try.results49 hf rfl) ?_
    exact ⟨_, rfl, hw.below, rfl⟩
  rintro s2 a w hs ⟨ρ, hw, hf⟩
  subst hs
  have hF := hG1
  dsimp only at hF
  refine x_block <| n_then <| c_seq <| c_region ?_
  refine s_ hf (r_assign hf rfl) fun a hf => ?_
  refine c_nt <| c_retc ?_
  obtain rfl := Option.some.inj hF
  refine c_ret hf (res_tmp Try.results49 hf rfl) ?_
  exact ⟨_, rfl, hw.below, rfl⟩
/-! f19 -/
noncomputable def spec_ScaledScheme_l8 (a0 : Sch) (s9 : Int) (s10 : List Prod) : Option (LR (Int × (List Prod)) (Sch × Int)) :=
  if (decide (s9 < (a0.ps.length : Int))) = true then (if 0 ≤ s9 ∧ s9 < (a0.ps.length : Int) then ((spec_l04First ((gl zProd a0.ps s9).1)).bind fun x15 => (spec_l04First ((gl zProd a0.ps s9).2.1)).bind fun x17 => (spec_l01Inverse a0.p x15).bind fun x19 => (spec_l01Scale a0.p ((gl zProd a0.ps s9).1) x19).bind fun x21 => (spec_l01Inverse a0.p x17).bind fun x23 => (spec_l01Scale a0.p ((gl zProd a0.ps s9).2.1) x23).bind fun x25 => if a0.p ≠ 0 then ((spec_l01Scale a0.p ((gl zProd a0.ps s9).2.2) ((w64 (x15 * x17)).tmod a0.p)).bind fun x28 => if (s10.length + ([(x21, x25, x28)]).length) * 27 ≤ 140737488355328 then (some (.next (w64 (s9 + 1), (s10 ++ [(x21, x25, x28)])))) else none) else none) else none) else (some (.stop (s9, s10)))
noncomputable def spec_ScaledScheme (a0 : Sch) : Option (Sch × Int) :=
  (spec_l01Is a0).bind fun x1 => if (!x1) = true then (some (((⟨0, 0, 0, 0, ([] : List Prod)⟩ : Sch), 1))) else ((spec_l01Empty a0).bind fun x4 => (iter (fun s => spec_ScaledScheme_l8 a0 s.1 s.2) (0, x4.ps)).bind fun o => match o with | .stop (s9, s10) => ((spec_l01Sorted (⟨x4.p, x4.n, x4.m, x4.k, s10⟩ : Sch)).bind fun x32 => some ((x32, 0))) | .ret r => some r | .next _ => none)
theorem spec_ScaledScheme_ok {w0 : World} {a0 : Sch} {va0 : Value} (h0 : Ro (kf cProd) w0 va0 a0.ps) {r : Sch × Int} (hF : spec_ScaledScheme a0 = some r) :
    Calls Try.prog 19 [.agg ([vI a0.p, vI a0.n, vI a0.m, vI a0.k, va0]).toArray].toArray w0 fun e w => ∃ v, e = .returned v ∧ Below w0.heap.size w0 w ∧ ∃ u0, .tuple #[.agg [.int .i64 r.1.p, .int .i64 r.1.n, .int .i64 r.1.m, .int .i64 r.1.k, u0].toArray, .int .i64 r.2] = v ∧ Fresh (kf cProd) 58 w0 w u0 r.1.ps := by
  refine calls_of (k := 67) Try.func19 rfl rfl (Nat.le_of_ble_eq_true rfl) fun a hf => ?_
  replace hf : Fr 67 a [(0, .agg ([vI a0.p, vI a0.n, vI a0.m, vI a0.k, va0]).toArray)] := hf
  refine c_start fun w ρ hw => ?_
  unfold spec_ScaledScheme at hF
  refine c_seq <| c_region ?_
  refine sx_ hf (r_box (cs := [vI a0.p, vI a0.n, vI a0.m, vI a0.k, va0]) 1 hw hf rfl rfl) fun a v w hf hΦ => ?_
  obtain ⟨g1, ρ, rfl, hw, hE, o1⟩ := hΦ
  have o3 : Ow (kf cProd) 58 ρ w w0.heap.size 3 (.slice none 0 0) [] := Ow.nil _ _ _ _ _ _
  refine sx_ hf (r_alloc (cs := [vI 0, vI 0, vI 0, vI 0, (.slice none 0 0)]) 2 ze28 rfl hw) fun a v w hf hΦ => ?_
  obtain ⟨g2, ρ, rfl, hw, hE, o2⟩ := hΦ
  replace o1 := o1.ext hE
  replace o3 := o3.ext hE
  refine s_ hf (r_assign hf rfl) fun a hf => ?_
  refine c_nt <| c_seq <| c_seq <| c_region ?_
  refine s_ hf (r_load_agg ty28 hf rfl o1.cl rfl) fun a hf => ?_
  obtain ⟨x1, hx2, hF⟩ := of_bind hF
  refine st_fn 4 hw hf rfl rfl (by decide) (r_fn en35 hf rfl) (spec_l01Is_ok (a0 := a0) (h0.now hw) hx2) fun a v w ρ hf hw hE hN hΦ => ?_
  obtain rfl := hΦ
  replace o1 := o1.ext hE
  replace o3 := o3.ext hE
  replace o2 := o2.ext hE
  refine s_ hf (r_not hf rfl) fun a hf => ?_
  refine c_nt ?_
  rcases of_ite hF with ⟨hb3, hF⟩ | ⟨hb3, hF⟩
  · refine c_ift hf rfl hb3 <| c_seq <| c_region ?_
    have o5 : Ow (kf cProd) 58 ρ w w0.heap.size 5 (.slice none 0 0) [] := Ow.nil _ _ _ _ _ _
    refine s_ hf (r_build_struct (pl := [(0, 1), (1, 1), (2, 1), (3, 1), (4, 1)]) (vs := []) (res := ([vI 0, vI 0, vI 0, vI 0, (.slice none 0 0)]).toArray) Try.underlying28 (by kernel_rfl) ze28 hf rfl rfl rfl) fun a hf => ?_
    refine sk_ hf (r_store_w (cs' := [vI 0, vI 0, vI 0, vI 0, (.slice none 0 0)]) hw o2 (by decide) ty28 rfl rfl (one_sch o5.ro.one) hf rfl rfl rfl) fun a w hf hΦ => ?_
    obtain ⟨hw, hA, o2⟩ := hΦ
    replace o1 := o1.adv hA (by decide)
    replace o3 := o3.adv hA (by decide)
    replace o5 := o5.adv hA (by decide)
    refine s_ hf (r_assign hf rfl) fun a hf => ?_
    refine c_nt <| c_retc ?_
    obtain rfl := Option.some.inj hF
    refine r_then <| c_ret hf (res_ct Try.results19 ty28 hf rfl o2.cl rfl rfl) ?_
    exact ⟨_, rfl, hw.below, ⟨_, rfl, o5.out⟩⟩
  refine c_iff hf rfl hb3 <| c_skip <| n_then <| c_seq ?_
  obtain ⟨x4, hx5, hF⟩ := of_bind hF
  replace hf : Fr 67 a [(1, .pointer (some ((⟨g1, 0, none⟩ : Addr).add 0))), (2, .pointer (some ((⟨g2, 0, none⟩ : Addr).add 0)))] := hf.sub ⟨rfl, rfl, trivial⟩
  refine c_stage 6 [5] mixed (by kernel_rfl) (by kernel_rfl) (fun c ρ w => Va ρ w 1 g1 28 ([vI a0.p, vI a0.n, vI a0.m, vI a0.k, va0]) ∧ Va ρ w 2 g2 28 ([vI 0, vI 0, vI 0, vI 0, (.slice none 0 0)]) ∧ O58 ρ w w0 3 (.slice none 0 0) ([] : List Prod)) ?_ [fun c ρ w v => .agg ([vI a0.p, vI a0.n, vI a0.m, vI a0.k, va0]).toArray = v, fun c ρ w v => ∃ u6, .agg ([vI x4.p, vI x4.n, vI x4.m, vI x4.k, u6]).toArray = v ∧ O58 ρ w w0 6 u6 x4.ps, fun c ρ w v => .pointer (some ((⟨g1, 0, none⟩ : Addr).add (0 + 0))) = v, fun c ρ w v => vI a0.p = v, fun c ρ w v => ∃ g7, .pointer (some ((⟨g7, 0, none⟩ : Addr).add 0)) = v ∧ (c ≤ 0 → Va ρ w 7 g7 28 ([vI 0, vI 0, vI 0, vI 0, (.slice none 0 0)])) ∧ (0 < c → ∃ u6, Va ρ w 7 g7 28 ([vI x4.p, vI x4.n, vI x4.m, vI x4.k, u6]) ∧ O58 ρ w w0 6 u6 x4.ps), fun _ _ _ _ => True] ?_ hw ⟨o1, o2, o3⟩ hf ?_ ?_
  · intro c ρ w ρ' w' hE hG
    obtain ⟨o1, o2, o3⟩ := hG
    exact ⟨o1.ext hE, o2.ext hE, o3.ext hE⟩
  · exact LastsS.cons (fun _ _ _ _ _ _ _ h => h) <| LastsS.cons (fun c _ _ _ _ _ hE h => by obtain ⟨u6, h, o6⟩ := h; exact ⟨_, h, o6.ext hE⟩) <| LastsS.cons (fun _ _ _ _ _ _ _ h => h) <| LastsS.cons (fun _ _ _ _ _ _ _ h => h) <| LastsS.cons (fun c _ _ _ _ _ hE h => by obtain ⟨g7, h, hx, hy⟩ := h; exact ⟨_, h, fun h => (hx h).ext hE, (fun h => by obtain ⟨u6, o7, o6⟩ := hy h; exact ⟨_, o7.ext hE, o6.ext hE⟩)⟩) <| LastsS.cons (fun _ _ _ _ _ _ _ h => h) <| LastsS.nil
  · refine StepsS.float rfl ?_ <| StepsS.float rfl ?_ <| StepsS.float rfl ?_ <| StepsS.float rfl ?_ <| StepsS.float rfl ?_ <| StepsS.main 0 rfl rfl ?_ <| StepsS.nil
    · intro c ρ w a hs hw hG hf hd K hK
      obtain ⟨o1, o2, o3⟩ := hG
      exact dv_ hK hw (wn rfl) (r_load_agg ty28 hf rfl o1.cl rfl) rfl
    · intro c ρ w a hs hw hG hf hd K hK
      obtain ⟨o1, o2, o3⟩ := hG
      obtain ⟨_, ht0, rfl⟩ := hd 0 (by kernel_rfl) (by kernel_rfl)
      replace hf := hf.more ht0
      refine dc_ hK hw (wn rfl) (r_fn en48 hf rfl) (spec_l01Empty_ok (a0 := a0) (h0.now hw) hx5) fun v w' hΦ => ?_
      obtain ⟨hb, hΦ⟩ := hΦ
      obtain ⟨u6, rfl, hr7⟩ := hΦ
      have hE := Ext.new (ρ := ρ) 6 hb
      have o6 := Fresh.own (ρ := ρ) (B := w0.heap.size) hr7 hw.below.size 6
      exact ⟨_, hw.new 6 hb, hE, ex_ <| an_ rfl <| o6⟩
    · intro c ρ w a hs hw hG hf hd K hK
      obtain ⟨o1, o2, o3⟩ := hG
      exact dv_ hK hw (wn rfl) (r_fa fa28_0 hf rfl) rfl
    · intro c ρ w a hs hw hG hf hd K hK
      obtain ⟨o1, o2, o3⟩ := hG
      obtain ⟨_, ht2, rfl⟩ := hd 2 (by kernel_rfl) (by kernel_rfl)
      replace hf := hf.more ht2
      exact dv_ hK hw (wn rfl) (r_load_cell ty2 hf rfl (o1.cl.at_ 0 _ rfl)) rfl
    · intro c ρ w a hs hw hG hf hd K hK
      obtain ⟨o1, o2, o3⟩ := hG
      have o8 : Ow (kf cProd) 58 ρ w w0.heap.size 8 (.slice none 0 0) [] := Ow.nil _ _ _ _ _ _
      refine dx_ hK hw (wn rfl) (r_alloc (cs := [vI 0, vI 0, vI 0, vI 0, (.slice none 0 0)]) 7 ze28 rfl hw) fun v w' hΦ => ?_
      obtain ⟨g7, ρ, rfl, hw, hE, o7⟩ := hΦ
      exact ⟨_, hw, hE, ex_ <| an_ rfl <| an_ (fun _ => o7) <| fun hc => absurd (hs 0 (by decide) (by kernel_rfl)) (Nat.not_le_of_lt hc)⟩
    · intro ρ w a S hw hG hf hS hdep hSi K hK
      obtain ⟨o1, o2, o3⟩ := hG
      have hfL := hf
      obtain ⟨_, ht1, ⟨u6, rfl, o6⟩⟩ := hS 1 (by decide) (hdep 1 (by kernel_rfl)) (by kernel_rfl)
      replace hf := hf.more ht1
      obtain ⟨_, ht4, g7, rfl, hx4, hy4⟩ := hS 4 (by decide) (hdep 4 (by kernel_rfl)) (by kernel_rfl)
      have o7 := hx4 (by decide)
      replace hf := hf.more ht4
      refine m_skip (Γ := fun c ρ w => Va ρ w 1 g1 28 ([vI a0.p, vI a0.n, vI a0.m, vI a0.k, va0]) ∧ Va ρ w 2 g2 28 ([vI 0, vI 0, vI 0, vI 0, (.slice none 0 0)]) ∧ O58 ρ w w0 3 (.slice none 0 0) ([] : List Prod)) (Rl := [fun c ρ w v => .agg ([vI a0.p, vI a0.n, vI a0.m, vI a0.k, va0]).toArray = v, fun c ρ w v => ∃ u6, .agg ([vI x4.p, vI x4.n, vI x4.m, vI x4.k, u6]).toArray = v ∧ O58 ρ w w0 6 u6 x4.ps, fun c ρ w v => .pointer (some ((⟨g1, 0, none⟩ : Addr).add (0 + 0))) = v, fun c ρ w v => vI a0.p = v, fun c ρ w v => ∃ g7, .pointer (some ((⟨g7, 0, none⟩ : Addr).add 0)) = v ∧ (c ≤ 0 → Va ρ w 7 g7 28 ([vI 0, vI 0, vI 0, vI 0, (.slice none 0 0)])) ∧ (0 < c → ∃ u6, Va ρ w 7 g7 28 ([vI x4.p, vI x4.n, vI x4.m, vI x4.k, u6]) ∧ O58 ρ w w0 6 u6 x4.ps), fun _ _ _ _ => True]) hfL hS (by kernel_rfl) rfl (wn rfl) (r_store_w (cs' := [vI x4.p, vI x4.n, vI x4.m, vI x4.k, u6]) hw o7 (by decide) ty28 rfl rfl (one_sch o6.ro.one) hf rfl rfl rfl) (fun w' hΦ => ?_) hK
      obtain ⟨hw, hA, o7⟩ := hΦ
      replace o1 := o1.adv hA (by decide)
      replace o2 := o2.adv hA (by decide)
      replace o3 := o3.adv hA (by decide)
      replace o6 := o6.adv hA (by decide)
      refine ⟨_, hw, ⟨o1, o2, o3⟩, ?_⟩
      · exact PassL.cons (fun h => h) <| PassL.cons (fun h => by obtain ⟨_, ht, u6, h, o6⟩ := h; exact ⟨_, ht, _, h, o6.adv hA (by decide)⟩) <| PassL.cons (fun h => h) <| PassL.cons (fun h => h) <| PassL.cons (fun _ => ⟨_, ht4, _, rfl, fun h => absurd h (by decide), fun _ => ⟨_, o7, o6⟩⟩) <| PassL.here <| PassL.nil
  intro ρ w a hw hG hf hd
  obtain ⟨o1, o2, o3⟩ := hG
  obtain ⟨_, hf, rfl⟩ := got (hd 3 (by decide) (by kernel_rfl)) hf
  obtain ⟨_, ht, g7, rfl, hx, hy⟩ := hd 4 (by decide) (by kernel_rfl)
  obtain ⟨u6, o7, o6⟩ := hy (by decide)
  replace hf := hf.more ht
  refine s_ hf (r_assign hf rfl) fun a hf => ?_
  refine c_nt <| c_seq <| c_seq <| c_region ?_
  refine s_ hf (r_assign hf rfl) fun a hf => ?_
  refine c_nt ?_
  obtain ⟨ol8, ho8, hG8⟩ := of_bind hF
  clear hF
  refine c_block (c_loop (id := 0) (fun s => spec_ScaledScheme_l8 a0 s.1 s.2) (fun (s : Int × (List Prod)) a w => match s with | (s9, s10) => ∃ ρ v11, Wd w0 ρ w ∧ Fr 67 a [(1, .pointer (some ((⟨g1, 0, none⟩ : Addr).add 0))), (2, .pointer (some ((⟨g2, 0, none⟩ : Addr).add 0))), (4, .pointer (some ((⟨g7, 0, none⟩ : Addr).add 0))), (5, vI a0.p), (6, vI s9)] ∧ Va ρ w 1 g1 28 ([vI a0.p, vI a0.n, vI a0.m, vI a0.k, va0]) ∧ Va ρ w 2 g2 28 ([vI 0, vI 0, vI 0, vI 0, (.slice none 0 0)]) ∧ O58 ρ w w0 3 (.slice none 0 0) ([] : List Prod) ∧ O58 ρ w w0 6 v11 s10 ∧ Va ρ w 7 g7 28 ([vI x4.p, vI x4.n, vI x4.m, vI x4.k, v11])) (fun (s : Int × (List Prod)) a w => match s with | (s9, s10) => ∃ ρ v11, Wd w0 ρ w ∧ Fr 67 a [(2, .pointer (some ((⟨g2, 0, none⟩ : Addr).add 0))), (4, .pointer (some ((⟨g7, 0, none⟩ : Addr).add 0)))] ∧ Va ρ w 2 g2 28 ([vI 0, vI 0, vI 0, vI 0, (.slice none 0 0)]) ∧ O58 ρ w w0 3 (.slice none 0 0) ([] : List Prod) ∧ O58 ρ w w0 6 v11 s10 ∧ Va ρ w 7 g7 28 ([vI x4.p, vI x4.n, vI x4.m, vI x4.k, v11])) ho8 ⟨_, _, hw, hf.sub ⟨rfl, rfl, rfl, rfl, rfl, trivial⟩, o1, o2, o3, o6, o7⟩ ?_ ?_)
  · rintro ⟨s9, s10⟩ lr a w ⟨ρ, v11, hw, hf, o1, o2, o3, o6, o7⟩ hF
    replace hF : spec_ScaledScheme_l8 a0 s9 s10 = some lr := hF
    unfold spec_ScaledScheme_l8 at hF
    refine c_seq <| c_seq <| c_region ?_
    refine s_ hf (r_move hf rfl) fun a hf => ?_
    refine s_ hf (r_fa fa28_4 hf rfl) fun a hf => ?_
    refine s_ hf (r_load_cell ty26 hf rfl (o1.cl.at_ 4 _ rfl)) fun a hf => ?_
    refine s_ hf (r_len Try.underlying26 (h0.now hw) hf rfl) fun a hf => ?_
    refine s_ hf (r_lss hf rfl rfl) fun a hf => ?_
    refine c_nt ?_
    rcases of_ite hF with ⟨hb12, hF⟩ | ⟨hb12, hF⟩
    rotate_left
    · refine c_iff hf rfl hb12 <| c_exit <| x_then ?_
      obtain rfl := Option.some.inj hF
      exact Rnd.stops ⟨_, _, hw, hf.sub ⟨rfl, rfl, trivial⟩, o2, o3, o6, o7⟩
    refine c_ift hf rfl hb12 <| c_skip <| n_then <| c_seq <| c_block <| c_seq <| c_region ?_
    refine s_ hf (r_fa fa28_4 hf rfl) fun a hf => ?_
    refine s_ hf (r_load_cell ty26 hf rfl (o1.cl.at_ 4 _ rfl)) fun a hf => ?_
    refine s_ hf (r_move hf rfl) fun a hf => ?_
    obtain ⟨hc13, hF⟩ := of_guard hF
    obtain ⟨ad14, c14, he14, hl14⟩ := Ro.el cProd h0 zProd hc13.1 hc13.2
    refine s_ hf (r_idx Try.underlying26 sz58 hf rfl ⟨_, he14⟩ rfl hc13.1 hc13.2) fun a hf => ?_
    refine s_ hf (r_load_agg ty58 hf rfl (hl14.below hw.below) (cProd.len _)) fun a hf => ?_
    refine sx_ hf (r_alloc (cs := cProd.enc zProd) 9 ze58 rfl hw) fun a v w hf hΦ => ?_
    obtain ⟨g9, ρ, rfl, hw, hE, o9⟩ := hΦ
    replace o1 := o1.ext hE
    replace o2 := o2.ext hE
    replace o3 := o3.ext hE
    replace o6 := o6.ext hE
    replace o7 := o7.ext hE
    refine sk_ hf (r_store_w (cs' := cProd.enc (gl zProd a0.ps s9)) hw o9 (by decide) ty58 (cProd.len _) (cProd.len _) (cProd.one _) hf rfl rfl rfl) fun a w hf hΦ => ?_
    obtain ⟨hw, hA, o9⟩ := hΦ
    replace o1 := o1.adv hA (by decide)
    replace o2 := o2.adv hA (by decide)
    replace o3 := o3.adv hA (by decide)
    replace o6 := o6.adv hA (by decide)
    replace o7 := o7.adv hA (by decide)
    refine c_nt <| c_seq ?_
    obtain ⟨x15, hx16, hF⟩ := of_bind hF
    replace hf : Fr 67 a [(1, .pointer (some ((⟨g1, 0, none⟩ : Addr).add 0))), (2, .pointer (some ((⟨g2, 0, none⟩ : Addr).add 0))), (4, .pointer (some ((⟨g7, 0, none⟩ : Addr).add 0))), (5, vI a0.p), (6, vI s9), (7, .pointer (some ((⟨g9, 0, none⟩ : Addr).add 0)))] := hf.sub ⟨rfl, rfl, rfl, rfl, rfl, rfl, trivial⟩
    refine c_drawL (h := 5) mixed (by kernel_rfl) (by kernel_rfl) (fun ρ w => Va ρ w 1 g1 28 ([vI a0.p, vI a0.n, vI a0.m, vI a0.k, va0]) ∧ Va ρ w 2 g2 28 ([vI 0, vI 0, vI 0, vI 0, (.slice none 0 0)]) ∧ O58 ρ w w0 3 (.slice none 0 0) ([] : List Prod) ∧ O58 ρ w w0 6 v11 s10 ∧ Va ρ w 7 g7 28 ([vI x4.p, vI x4.n, vI x4.m, vI x4.k, v11]) ∧ Va ρ w 9 g9 58 (cProd.enc (gl zProd a0.ps s9))) ?_ [fun ρ w v => .pointer (some ((⟨g9, 0, none⟩ : Addr).add (0 + 0))) = v, fun ρ w v => .agg (cForm.enc ((gl zProd a0.ps s9).1)).toArray = v, fun ρ w v => vI x15 = v, fun ρ w v => .pointer (some ((⟨g9, 0, none⟩ : Addr).add (0 + 9))) = v, fun ρ w v => .agg (cForm.enc ((gl zProd a0.ps s9).2.1)).toArray = v] ?_ hw ⟨o1, o2, o3, o6, o7, o9⟩ hf ?_ ?_
    · intro ρ w ρ' w' hE hG
      obtain ⟨o1, o2, o3, o6, o7, o9⟩ := hG
      exact ⟨o1.ext hE, o2.ext hE, o3.ext hE, o6.ext hE, o7.ext hE, o9.ext hE⟩
    · exact LastsL.cons (fun _ _ _ _ _ _ h => h) <| LastsL.cons (fun _ _ _ _ _ _ h => h) <| LastsL.cons (fun _ _ _ _ _ _ h => h) <| LastsL.cons (fun _ _ _ _ _ _ h => h) <| LastsL.cons (fun _ _ _ _ _ _ h => h) <| LastsL.nil
    · refine StepsB.cons ?_ <| StepsB.cons ?_ <| StepsB.cons ?_ <| StepsB.cons ?_ <| StepsB.cons ?_ <| StepsB.nil
      · intro ρ w a hw hG hf hd K hK
        obtain ⟨o1, o2, o3, o6, o7, o9⟩ := hG
        exact dv_ hK hw (wn rfl) (r_fa fa58_0 hf rfl) rfl
      · intro ρ w a hw hG hf hd K hK
        obtain ⟨o1, o2, o3, o6, o7, o9⟩ := hG
        obtain ⟨_, hf, rfl⟩ := got (hd 0 (by kernel_rfl)) hf
        exact dv_ hK hw (wn rfl) (r_load_agg ty56 hf rfl (o9.cl.lens lProd_0) (cForm.len _)) rfl
      · intro ρ w a hw hG hf hd K hK
        obtain ⟨o1, o2, o3, o6, o7, o9⟩ := hG
        obtain ⟨_, hf, rfl⟩ := got (hd 1 (by kernel_rfl)) hf
        refine dc_ hK hw (wn rfl) (r_fn en49 hf rfl) (spec_l04First_ok  hx16) fun v w' hΦ => ?_
        obtain ⟨hb, hΦ⟩ := hΦ
        obtain rfl := hΦ
        have hE := Ext.new (ρ := ρ) 10 hb
        exact ⟨_, hw.new 10 hb, hE, rfl⟩
      · intro ρ w a hw hG hf hd K hK
        obtain ⟨o1, o2, o3, o6, o7, o9⟩ := hG
        exact dv_ hK hw (wn rfl) (r_fa fa58_1 hf rfl) rfl
      · intro ρ w a hw hG hf hd K hK
        obtain ⟨o1, o2, o3, o6, o7, o9⟩ := hG
        obtain ⟨_, hf, rfl⟩ := got (hd 3 (by kernel_rfl)) hf
        exact dv_ hK hw (wn rfl) (r_load_agg ty56 hf rfl (o9.cl.lens lProd_1) (cForm.len _)) rfl
    intro ρ w a hw hG hf hd
    obtain ⟨o1, o2, o3, o6, o7, o9⟩ := hG
    obtain ⟨_, hf, rfl⟩ := got (hd 2 (by decide)) hf
    obtain ⟨_, hf, rfl⟩ := got (hd 4 (by decide)) hf
    obtain ⟨x17, hx18, hF⟩ := of_bind hF
    refine st_fn 11 hw hf rfl rfl (by decide) (r_fn en49 hf rfl) (spec_l04First_ok  hx18) fun a v w ρ hf hw hE hN hΦ => ?_
    obtain rfl := hΦ
    replace o1 := o1.ext hE
    replace o2 := o2.ext hE
    replace o3 := o3.ext hE
    replace o6 := o6.ext hE
    replace o7 := o7.ext hE
    replace o9 := o9.ext hE
    refine s_ hf (r_assign hf rfl) fun a hf => ?_
    refine s_ hf (r_assign hf rfl) fun a hf => ?_
    refine c_nt ?_
    obtain ⟨x19, hx20, hF⟩ := of_bind hF
    obtain ⟨x21, hx22, hF⟩ := of_bind hF
    obtain ⟨x23, hx24, hF⟩ := of_bind hF
    obtain ⟨x25, hx26, hF⟩ := of_bind hF
    obtain ⟨hc27, hF⟩ := of_guard hF
    obtain ⟨x28, hx29, hF⟩ := of_bind hF
    replace hf : Fr 67 a [(1, .pointer (some ((⟨g1, 0, none⟩ : Addr).add 0))), (2, .pointer (some ((⟨g2, 0, none⟩ : Addr).add 0))), (4, .pointer (some ((⟨g7, 0, none⟩ : Addr).add 0))), (5, vI a0.p), (6, vI s9), (7, .pointer (some ((⟨g9, 0, none⟩ : Addr).add 0))), (8, vI x15), (9, vI x17)] := hf.sub ⟨rfl, rfl, rfl, rfl, rfl, rfl, rfl, rfl, trivial⟩
    refine c_drawL (h := 27) mixed (by kernel_rfl) (by kernel_rfl) (fun ρ w => Va ρ w 1 g1 28 ([vI a0.p, vI a0.n, vI a0.m, vI a0.k, va0]) ∧ Va ρ w 2 g2 28 ([vI 0, vI 0, vI 0, vI 0, (.slice none 0 0)]) ∧ O58 ρ w w0 3 (.slice none 0 0) ([] : List Prod) ∧ O58 ρ w w0 6 v11 s10 ∧ Va ρ w 7 g7 28 ([vI x4.p, vI x4.n, vI x4.m, vI x4.k, v11]) ∧ Va ρ w 9 g9 58 (cProd.enc (gl zProd a0.ps s9))) ?_ [fun ρ w v => .pointer (some ((⟨g7, 0, none⟩ : Addr).add (0 + 4))) = v, fun ρ w v => v11 = v, fun ρ w v => vI a0.p = v, fun ρ w v => .pointer (some ((⟨g9, 0, none⟩ : Addr).add (0 + 0))) = v, fun ρ w v => .agg (cForm.enc ((gl zProd a0.ps s9).1)).toArray = v, fun ρ w v => vI a0.p = v, fun ρ w v => vI x15 = v, fun ρ w v => vI x19 = v, fun ρ w v => .agg (cForm.enc x21).toArray = v, fun ρ w v => vI a0.p = v, fun ρ w v => .pointer (some ((⟨g9, 0, none⟩ : Addr).add (0 + 9))) = v, fun ρ w v => .agg (cForm.enc ((gl zProd a0.ps s9).2.1)).toArray = v, fun ρ w v => vI a0.p = v, fun ρ w v => vI x17 = v, fun ρ w v => vI x23 = v, fun ρ w v => .agg (cForm.enc x25).toArray = v, fun ρ w v => vI a0.p = v, fun ρ w v => .pointer (some ((⟨g9, 0, none⟩ : Addr).add (0 + 18))) = v, fun ρ w v => .agg (cForm.enc ((gl zProd a0.ps s9).2.2)).toArray = v, fun ρ w v => vI x15 = v, fun ρ w v => vI x17 = v, fun ρ w v => vI (w64 (x15 * x17)) = v, fun ρ w v => vI a0.p = v, fun ρ w v => vI ((w64 (x15 * x17)).tmod a0.p) = v, fun ρ w v => .agg (cForm.enc x28).toArray = v, fun ρ w v => .agg (cProd.enc (x21, x25, x28)).toArray = v, fun ρ w v => ∃ v17, v17 = v ∧ O58 ρ w w0 17 v17 ([(x21, x25, x28)])] ?_ hw ⟨o1, o2, o3, o6, o7, o9⟩ hf ?_ ?_
    · intro ρ w ρ' w' hE hG
      obtain ⟨o1, o2, o3, o6, o7, o9⟩ := hG
      exact ⟨o1.ext hE, o2.ext hE, o3.ext hE, o6.ext hE, o7.ext hE, o9.ext hE⟩
    · exact LastsL.cons (fun _ _ _ _ _ _ h => h) <| LastsL.cons (fun _ _ _ _ _ _ h => h) <| LastsL.cons (fun _ _ _ _ _ _ h => h) <| LastsL.cons (fun _ _ _ _ _ _ h => h) <| LastsL.cons (fun _ _ _ _ _ _ h => h) <| LastsL.cons (fun _ _ _ _ _ _ h => h) <| LastsL.cons (fun _ _ _ _ _ _ h => h) <| LastsL.cons (fun _ _ _ _ _ _ h => h) <| LastsL.cons (fun _ _ _ _ _ _ h => h) <| LastsL.cons (fun _ _ _ _ _ _ h => h) <| LastsL.cons (fun _ _ _ _ _ _ h => h) <| LastsL.cons (fun _ _ _ _ _ _ h => h) <| LastsL.cons (fun _ _ _ _ _ _ h => h) <| LastsL.cons (fun _ _ _ _ _ _ h => h) <| LastsL.cons (fun _ _ _ _ _ _ h => h) <| LastsL.cons (fun _ _ _ _ _ _ h => h) <| LastsL.cons (fun _ _ _ _ _ _ h => h) <| LastsL.cons (fun _ _ _ _ _ _ h => h) <| LastsL.cons (fun _ _ _ _ _ _ h => h) <| LastsL.cons (fun _ _ _ _ _ _ h => h) <| LastsL.cons (fun _ _ _ _ _ _ h => h) <| LastsL.cons (fun _ _ _ _ _ _ h => h) <| LastsL.cons (fun _ _ _ _ _ _ h => h) <| LastsL.cons (fun _ _ _ _ _ _ h => h) <| LastsL.cons (fun _ _ _ _ _ _ h => h) <| LastsL.cons (fun _ _ _ _ _ _ h => h) <| LastsL.cons (fun _ _ _ _ _ hE h => by obtain ⟨v17, h, o17⟩ := h; exact ⟨_, h, o17.ext hE⟩) <| LastsL.nil
    · refine StepsB.cons ?_ <| StepsB.cons ?_ <| StepsB.cons ?_ <| StepsB.cons ?_ <| StepsB.cons ?_ <| StepsB.cons ?_ <| StepsB.cons ?_ <| StepsB.cons ?_ <| StepsB.cons ?_ <| StepsB.cons ?_ <| StepsB.cons ?_ <| StepsB.cons ?_ <| StepsB.cons ?_ <| StepsB.cons ?_ <| StepsB.cons ?_ <| StepsB.cons ?_ <| StepsB.cons ?_ <| StepsB.cons ?_ <| StepsB.cons ?_ <| StepsB.cons ?_ <| StepsB.cons ?_ <| StepsB.cons ?_ <| StepsB.cons ?_ <| StepsB.cons ?_ <| StepsB.cons ?_ <| StepsB.cons ?_ <| StepsB.cons ?_ <| StepsB.nil
      · intro ρ w a hw hG hf hd K hK
        obtain ⟨o1, o2, o3, o6, o7, o9⟩ := hG
        exact dv_ hK hw (wn rfl) (r_fa fa28_4 hf rfl) rfl
      · intro ρ w a hw hG hf hd K hK
        obtain ⟨o1, o2, o3, o6, o7, o9⟩ := hG
        obtain ⟨_, hf, rfl⟩ := got (hd 0 (by kernel_rfl)) hf
        exact dv_ hK hw (wn rfl) (r_load_cell ty26 hf rfl (o7.cl.at_ 4 _ rfl)) rfl
      · intro ρ w a hw hG hf hd K hK
        obtain ⟨o1, o2, o3, o6, o7, o9⟩ := hG
        exact dv_ hK hw (wn rfl) (r_move hf rfl) rfl
      · intro ρ w a hw hG hf hd K hK
        obtain ⟨o1, o2, o3, o6, o7, o9⟩ := hG
        exact dv_ hK hw (wn rfl) (r_fa fa58_0 hf rfl) rfl
      · intro ρ w a hw hG hf hd K hK
        obtain ⟨o1, o2, o3, o6, o7, o9⟩ := hG
        obtain ⟨_, hf, rfl⟩ := got (hd 3 (by kernel_rfl)) hf
        exact dv_ hK hw (wn rfl) (r_load_agg ty56 hf rfl (o9.cl.lens lProd_0) (cForm.len _)) rfl
      · intro ρ w a hw hG hf hd K hK
        obtain ⟨o1, o2, o3, o6, o7, o9⟩ := hG
        exact dv_ hK hw (wn rfl) (r_move hf rfl) rfl
      · intro ρ w a hw hG hf hd K hK
        obtain ⟨o1, o2, o3, o6, o7, o9⟩ := hG
        exact dv_ hK hw (wn rfl) (r_move hf rfl) rfl
      · intro ρ w a hw hG hf hd K hK
        obtain ⟨o1, o2, o3, o6, o7, o9⟩ := hG
        obtain ⟨_, hf, rfl⟩ := got (hd 5 (by kernel_rfl)) hf
        obtain ⟨_, hf, rfl⟩ := got (hd 6 (by kernel_rfl)) hf
        refine dc_ hK hw (wn rfl) (r_fn en51 hf rfl) (spec_l01Inverse_ok  hx20) fun v w' hΦ => ?_
        obtain ⟨hb, hΦ⟩ := hΦ
        obtain rfl := hΦ
        have hE := Ext.new (ρ := ρ) 12 hb
        exact ⟨_, hw.new 12 hb, hE, rfl⟩
      · intro ρ w a hw hG hf hd K hK
        obtain ⟨o1, o2, o3, o6, o7, o9⟩ := hG
        obtain ⟨_, hf, rfl⟩ := got (hd 2 (by kernel_rfl)) hf
        obtain ⟨_, hf, rfl⟩ := got (hd 4 (by kernel_rfl)) hf
        obtain ⟨_, hf, rfl⟩ := got (hd 7 (by kernel_rfl)) hf
        refine dc_ hK hw (wn rfl) (r_fn en50 hf rfl) (spec_l01Scale_ok  hx22) fun v w' hΦ => ?_
        obtain ⟨hb, hΦ⟩ := hΦ
        obtain rfl := hΦ
        have hE := Ext.new (ρ := ρ) 13 hb
        exact ⟨_, hw.new 13 hb, hE, rfl⟩
      · intro ρ w a hw hG hf hd K hK
        obtain ⟨o1, o2, o3, o6, o7, o9⟩ := hG
        exact dv_ hK hw (wn rfl) (r_move hf rfl) rfl
      · intro ρ w a hw hG hf hd K hK
        obtain ⟨o1, o2, o3, o6, o7, o9⟩ := hG
        exact dv_ hK hw (wn rfl) (r_fa fa58_1 hf rfl) rfl
      · intro ρ w a hw hG hf hd K hK
        obtain ⟨o1, o2, o3, o6, o7, o9⟩ := hG
        obtain ⟨_, hf, rfl⟩ := got (hd 10 (by kernel_rfl)) hf
        exact dv_ hK hw (wn rfl) (r_load_agg ty56 hf rfl (o9.cl.lens lProd_1) (cForm.len _)) rfl
      · intro ρ w a hw hG hf hd K hK
        obtain ⟨o1, o2, o3, o6, o7, o9⟩ := hG
        exact dv_ hK hw (wn rfl) (r_move hf rfl) rfl
      · intro ρ w a hw hG hf hd K hK
        obtain ⟨o1, o2, o3, o6, o7, o9⟩ := hG
        exact dv_ hK hw (wn rfl) (r_move hf rfl) rfl
      · intro ρ w a hw hG hf hd K hK
        obtain ⟨o1, o2, o3, o6, o7, o9⟩ := hG
        obtain ⟨_, hf, rfl⟩ := got (hd 12 (by kernel_rfl)) hf
        obtain ⟨_, hf, rfl⟩ := got (hd 13 (by kernel_rfl)) hf
        refine dc_ hK hw (wn rfl) (r_fn en51 hf rfl) (spec_l01Inverse_ok  hx24) fun v w' hΦ => ?_
        obtain ⟨hb, hΦ⟩ := hΦ
        obtain rfl := hΦ
        have hE := Ext.new (ρ := ρ) 14 hb
        exact ⟨_, hw.new 14 hb, hE, rfl⟩
      · intro ρ w a hw hG hf hd K hK
        obtain ⟨o1, o2, o3, o6, o7, o9⟩ := hG
        obtain ⟨_, hf, rfl⟩ := got (hd 9 (by kernel_rfl)) hf
        obtain ⟨_, hf, rfl⟩ := got (hd 11 (by kernel_rfl)) hf
        obtain ⟨_, hf, rfl⟩ := got (hd 14 (by kernel_rfl)) hf
        refine dc_ hK hw (wn rfl) (r_fn en50 hf rfl) (spec_l01Scale_ok  hx26) fun v w' hΦ => ?_
        obtain ⟨hb, hΦ⟩ := hΦ
        obtain rfl := hΦ
        have hE := Ext.new (ρ := ρ) 15 hb
        exact ⟨_, hw.new 15 hb, hE, rfl⟩
      · intro ρ w a hw hG hf hd K hK
        obtain ⟨o1, o2, o3, o6, o7, o9⟩ := hG
        exact dv_ hK hw (wn rfl) (r_move hf rfl) rfl
      · intro ρ w a hw hG hf hd K hK
        obtain ⟨o1, o2, o3, o6, o7, o9⟩ := hG
        exact dv_ hK hw (wn rfl) (r_fa fa58_2 hf rfl) rfl
      · intro ρ w a hw hG hf hd K hK
        obtain ⟨o1, o2, o3, o6, o7, o9⟩ := hG
        obtain ⟨_, hf, rfl⟩ := got (hd 17 (by kernel_rfl)) hf
        exact dv_ hK hw (wn rfl) (r_load_agg ty56 hf rfl (o9.cl.lens lProd_2) (cForm.len _)) rfl
      · intro ρ w a hw hG hf hd K hK
        obtain ⟨o1, o2, o3, o6, o7, o9⟩ := hG
        exact dv_ hK hw (wn rfl) (r_move hf rfl) rfl
      · intro ρ w a hw hG hf hd K hK
        obtain ⟨o1, o2, o3, o6, o7, o9⟩ := hG
        exact dv_ hK hw (wn rfl) (r_move hf rfl) rfl
      · intro ρ w a hw hG hf hd K hK
        obtain ⟨o1, o2, o3, o6, o7, o9⟩ := hG
        obtain ⟨_, hf, rfl⟩ := got (hd 19 (by kernel_rfl)) hf
        obtain ⟨_, hf, rfl⟩ := got (hd 20 (by kernel_rfl)) hf
        exact dv_ hK hw (wn rfl) (r_mul hf rfl rfl) rfl
      · intro ρ w a hw hG hf hd K hK
        obtain ⟨o1, o2, o3, o6, o7, o9⟩ := hG
        exact dv_ hK hw (wn rfl) (r_move hf rfl) rfl
      · intro ρ w a hw hG hf hd K hK
        obtain ⟨o1, o2, o3, o6, o7, o9⟩ := hG
        obtain ⟨_, hf, rfl⟩ := got (hd 21 (by kernel_rfl)) hf
        obtain ⟨_, hf, rfl⟩ := got (hd 22 (by kernel_rfl)) hf
        exact dv_ hK hw (wn rfl) (r_rem hf rfl rfl hc27) rfl
      · intro ρ w a hw hG hf hd K hK
        obtain ⟨o1, o2, o3, o6, o7, o9⟩ := hG
        obtain ⟨_, hf, rfl⟩ := got (hd 16 (by kernel_rfl)) hf
        obtain ⟨_, hf, rfl⟩ := got (hd 18 (by kernel_rfl)) hf
        obtain ⟨_, hf, rfl⟩ := got (hd 23 (by kernel_rfl)) hf
        refine dc_ hK hw (wn rfl) (r_fn en50 hf rfl) (spec_l01Scale_ok  hx29) fun v w' hΦ => ?_
        obtain ⟨hb, hΦ⟩ := hΦ
        obtain rfl := hΦ
        have hE := Ext.new (ρ := ρ) 16 hb
        exact ⟨_, hw.new 16 hb, hE, rfl⟩
      · intro ρ w a hw hG hf hd K hK
        obtain ⟨o1, o2, o3, o6, o7, o9⟩ := hG
        obtain ⟨_, hf, rfl⟩ := got (hd 8 (by kernel_rfl)) hf
        obtain ⟨_, hf, rfl⟩ := got (hd 15 (by kernel_rfl)) hf
        obtain ⟨_, hf, rfl⟩ := got (hd 24 (by kernel_rfl)) hf
        exact dv_ hK hw (wn rfl) (r_build_struct (pl := [(0, 9), (9, 9), (18, 9)]) (vs := [(0, .agg (cForm.enc x21).toArray), (1, .agg (cForm.enc x25).toArray), (2, .agg (cForm.enc x28).toArray)]) (res := (cProd.enc (x21, x25, x28)).toArray) Try.underlying58 (by kernel_rfl) ze58 hf rfl rfl ((fill_lens (d := cProd) (z := zProd) lProd_0 rfl rfl).trans ((fill_lens (d := cProd) (z := (x21, zProd.2.1, zProd.2.2)) lProd_1 rfl rfl).trans ((fill_lens (d := cProd) (z := (x21, x25, zProd.2.2)) lProd_2 rfl rfl).trans rfl)))) rfl
      · intro ρ w a hw hG hf hd K hK
        obtain ⟨o1, o2, o3, o6, o7, o9⟩ := hG
        obtain ⟨_, hf, rfl⟩ := got (hd 25 (by kernel_rfl)) hf
        refine dx_ hK hw (wn rfl) (r_lit (d := cProd) (xs := ([(x21, x25, x28)] : List Prod)) (vs := [.agg (cProd.enc (x21, x25, x28)).toArray]) 17 Try.underlying26 el58 (Nat.le_of_ble_eq_true rfl) (Nat.le_of_ble_eq_true rfl) hw hf rfl rfl rfl) fun v17 w' hΦ => ?_
        obtain ⟨ρ, hw, hE, o17⟩ := hΦ
        exact ⟨_, hw, hE, ex_ <| an_ rfl <| o17⟩
    intro ρ w a hw hG hf hd
    obtain ⟨o1, o2, o3, o6, o7, o9⟩ := hG
    obtain ⟨_, hf, rfl⟩ := got (hd 1 (by decide)) hf
    obtain ⟨_, hf, ⟨v17, rfl, o17⟩⟩ := got (hd 26 (by decide)) hf
    obtain ⟨hc30, hF⟩ := of_guard hF
    refine sx_ hf (r_append Try.underlying26 el58 hw (by decide) o6 o17.ro hc30 hf rfl rfl) fun a va31 w hf hΦ => ?_
    obtain ⟨ρ, hw, hA, o6⟩ := hΦ
    replace o1 := o1.adv hA (by decide)
    replace o2 := o2.adv hA (by decide)
    replace o3 := o3.adv hA (by decide)
    replace o7 := o7.adv hA (by decide)
    replace o9 := o9.adv hA (by decide)
    replace o17 := o17.adv hA (by decide)
    refine s_ hf (r_fa fa28_4 hf rfl) fun a hf => ?_
    refine sk_ hf (r_store_c hw o7 (by decide) ty26 (Nat.le_of_ble_eq_true rfl) hf rfl rfl o6.ro.cells1 o6.ro.one) fun a w hf hΦ => ?_
    obtain ⟨hw, hA, o7⟩ := hΦ
    replace o1 := o1.adv hA (by decide)
    replace o2 := o2.adv hA (by decide)
    replace o3 := o3.adv hA (by decide)
    replace o6 := o6.adv hA (by decide)
    replace o9 := o9.adv hA (by decide)
    replace o17 := o17.adv hA (by decide)
    replace o7 : Va ρ w 7 g7 28 ([vI x4.p, vI x4.n, vI x4.m, vI x4.k, va31]) := o7
    refine c_nil <| n_block <| n_then <| c_region ?_
    refine s_ hf (r_move hf rfl) fun a hf => ?_
    refine s_ hf (r_add hf rfl rfl) fun a hf => ?_
    refine s_ hf (r_assign hf rfl) fun a hf => ?_
    refine c_nil ?_
    obtain rfl := Option.some.inj hF
    exact Rnd.goes ⟨_, _, hw, hf.sub ⟨rfl, rfl, rfl, rfl, rfl, trivial⟩, o1, o2, o3, o6, o7⟩
  rintro ⟨s9, s10⟩ a w hs ⟨ρ, v11, hw, hf, o2, o3, o6, o7⟩
  subst hs
  have hF := hG8
  dsimp only at hF
  refine x_block <| n_then <| c_seq <| c_region ?_
  refine s_ hf (r_load_agg ty28 hf rfl o7.cl rfl) fun a hf => ?_
  obtain ⟨x32, hx33, hF⟩ := of_bind hF
  refine st_fn 18 hw hf rfl rfl (by decide) (r_fn en36 hf rfl) (spec_l01Sorted_ok (a0 := (⟨x4.p, x4.n, x4.m, x4.k, s10⟩ : Sch)) o6.ro hx33) fun a v w ρ hf hw hE hN hΦ => ?_
  obtain ⟨u34, rfl, hr35⟩ := hΦ
  replace o2 := o2.ext hE
  replace o3 := o3.ext hE
  replace o6 := o6.ext hE
  replace o7 := o7.ext hE
  have o18 := hN hr35
  refine sk_ hf (r_store_w (cs' := [vI x32.p, vI x32.n, vI x32.m, vI x32.k, u34]) hw o2 (by decide) ty28 rfl rfl (one_sch o18.ro.one) hf rfl rfl rfl) fun a w hf hΦ => ?_
  obtain ⟨hw, hA, o2⟩ := hΦ
  replace o3 := o3.adv hA (by decide)
  replace o6 := o6.adv hA (by decide)
  replace o7 := o7.adv hA (by decide)
  replace o18 := o18.adv hA (by decide)
  refine s_ hf (r_assign hf rfl) fun a hf => ?_
  refine c_nt <| c_retc ?_
  obtain rfl := Option.some.inj hF
  refine c_ret hf (res_ct Try.results19 ty28 hf rfl o2.cl rfl rfl) ?_
  exact ⟨_, rfl, hw.below, ⟨_, rfl, o18.out⟩⟩
/-! f20 -/
noncomputable def impl_ScaledScheme (a0 : Sch) : Option (Sch × Int) :=
  (impl_IsScheme a0).bind fun x1 => if (!x1) = true then (some (((⟨0, 0, 0, 0, ([] : List Prod)⟩ : Sch), 1))) else ((impl_normals a0).bind fun x4 => (impl_sorted x4).bind fun x8 => some ((x8, 0)))
theorem impl_ScaledScheme_ok {w0 : World} {a0 : Sch} {va0 : Value} (h0 : Ro (kf cProd) w0 va0 a0.ps) {r : Sch × Int} (hF : impl_ScaledScheme a0 = some r) :
    Calls Try.prog 20 [.agg ([vI a0.p, vI a0.n, vI a0.m, vI a0.k, va0]).toArray].toArray w0 fun e w => ∃ v, e = .returned v ∧ Below w0.heap.size w0 w ∧ ∃ u0, .tuple #[.agg [.int .i64 r.1.p, .int .i64 r.1.n, .int .i64 r.1.m, .int .i64 r.1.k, u0].toArray, .int .i64 r.2] = v ∧ Fresh (kf cProd) 58 w0 w u0 r.1.ps := by
  refine calls_of (k := 11) Try.func20 rfl rfl (Nat.le_of_ble_eq_true rfl) fun a hf => ?_
  replace hf : Fr 11 a [(0, .agg ([vI a0.p, vI a0.n, vI a0.m, vI a0.k, va0]).toArray)] := hf
  refine c_start fun w ρ hw => ?_
  unfold impl_ScaledScheme at hF
  refine c_seq <| c_region ?_
  refine sx_ hf (r_box (cs := [vI a0.p, vI a0.n, vI a0.m, vI a0.k, va0]) 1 hw hf rfl rfl) fun a v w hf hΦ => ?_
  obtain ⟨g1, ρ, rfl, hw, hE, o1⟩ := hΦ
  have o3 : Ow (kf cProd) 58 ρ w w0.heap.size 3 (.slice none 0 0) [] := Ow.nil _ _ _ _ _ _
  refine sx_ hf (r_alloc (cs := [vI 0, vI 0, vI 0, vI 0, (.slice none 0 0)]) 2 ze28 rfl hw) fun a v w hf hΦ => ?_
  obtain ⟨g2, ρ, rfl, hw, hE, o2⟩ := hΦ
  replace o1 := o1.ext hE
  replace o3 := o3.ext hE
  refine s_ hf (r_assign hf rfl) fun a hf => ?_
  refine c_nt <| c_seq <| c_seq <| c_region ?_
  refine s_ hf (r_load_agg ty28 hf rfl o1.cl rfl) fun a hf => ?_
  obtain ⟨x1, hx2, hF⟩ := of_bind hF
  refine st_fn 4 hw hf rfl rfl (by decide) (r_fn en38 hf rfl) (impl_IsScheme_ok (a0 := a0) (h0.now hw) hx2) fun a v w ρ hf hw hE hN hΦ => ?_
  obtain rfl := hΦ
  replace o1 := o1.ext hE
  replace o3 := o3.ext hE
  replace o2 := o2.ext hE
  refine s_ hf (r_not hf rfl) fun a hf => ?_
  refine c_nt ?_
  rcases of_ite hF with ⟨hb3, hF⟩ | ⟨hb3, hF⟩
  · refine c_ift hf rfl hb3 <| c_seq <| c_region ?_
    have o5 : Ow (kf cProd) 58 ρ w w0.heap.size 5 (.slice none 0 0) [] := Ow.nil _ _ _ _ _ _
    refine s_ hf (r_build_struct (pl := [(0, 1), (1, 1), (2, 1), (3, 1), (4, 1)]) (vs := []) (res := ([vI 0, vI 0, vI 0, vI 0, (.slice none 0 0)]).toArray) Try.underlying28 (by kernel_rfl) ze28 hf rfl rfl rfl) fun a hf => ?_
    refine sk_ hf (r_store_w (cs' := [vI 0, vI 0, vI 0, vI 0, (.slice none 0 0)]) hw o2 (by decide) ty28 rfl rfl (one_sch o5.ro.one) hf rfl rfl rfl) fun a w hf hΦ => ?_
    obtain ⟨hw, hA, o2⟩ := hΦ
    replace o1 := o1.adv hA (by decide)
    replace o3 := o3.adv hA (by decide)
    replace o5 := o5.adv hA (by decide)
    refine s_ hf (r_assign hf rfl) fun a hf => ?_
    refine c_nt <| c_retc ?_
    obtain rfl := Option.some.inj hF
    refine r_then <| c_ret hf (res_ct Try.results20 ty28 hf rfl o2.cl rfl rfl) ?_
    exact ⟨_, rfl, hw.below, ⟨_, rfl, o5.out⟩⟩
  refine c_iff hf rfl hb3 <| c_skip <| n_then <| c_seq <| c_region ?_
  refine s_ hf (r_load_agg ty28 hf rfl o1.cl rfl) fun a hf => ?_
  obtain ⟨x4, hx5, hF⟩ := of_bind hF
  refine st_fn 6 hw hf rfl rfl (by decide) (r_fn en47 hf rfl) (impl_normals_ok (a0 := a0) (h0.now hw) hx5) fun a v w ρ hf hw hE hN hΦ => ?_
  obtain ⟨u6, rfl, hr7⟩ := hΦ
  replace o1 := o1.ext hE
  replace o3 := o3.ext hE
  replace o2 := o2.ext hE
  have o6 := hN hr7
  obtain ⟨x8, hx9, hF⟩ := of_bind hF
  refine st_fn 7 hw hf rfl rfl (by decide) (r_fn en39 hf rfl) (impl_sorted_ok (a0 := x4) o6.ro hx9) fun a v w ρ hf hw hE hN hΦ => ?_
  obtain ⟨u10, rfl, hr11⟩ := hΦ
  replace o1 := o1.ext hE
  replace o3 := o3.ext hE
  replace o2 := o2.ext hE
  replace o6 := o6.ext hE
  have o7 := hN hr11
  refine sk_ hf (r_store_w (cs' := [vI x8.p, vI x8.n, vI x8.m, vI x8.k, u10]) hw o2 (by decide) ty28 rfl rfl (one_sch o7.ro.one) hf rfl rfl rfl) fun a w hf hΦ => ?_
  obtain ⟨hw, hA, o2⟩ := hΦ
  replace o1 := o1.adv hA (by decide)
  replace o3 := o3.adv hA (by decide)
  replace o6 := o6.adv hA (by decide)
  replace o7 := o7.adv hA (by decide)
  refine s_ hf (r_assign hf rfl) fun a hf => ?_
  refine c_nt <| c_retc ?_
  obtain rfl := Option.some.inj hF
  refine c_ret hf (res_ct Try.results20 ty28 hf rfl o2.cl rfl rfl) ?_
  exact ⟨_, rfl, hw.below, ⟨_, rfl, o7.out⟩⟩
/-! f43 -/
noncomputable def spec_l03Like (a0 : Sch) (a1 : Sch) : Option Int :=
  ((spec_l01Is a0).bind fun x3 => if (!x3) = true then (some true) else ((spec_l01Is a1).bind fun x6 => some (!x6))).bind fun (s2 : Bool) => if s2 = true then (some (1)) else ((if (decide (a0.p ≠ a1.p)) = true then (some true) else (if (decide (a0.n ≠ a1.n)) = true then (some true) else (if (decide (a0.m ≠ a1.m)) = true then (some true) else (some (decide (a0.k ≠ a1.k)))))).bind fun (s10 : Bool) => if s10 = true then (some (2)) else (some (0)))
theorem spec_l03Like_ok {w0 : World} {a0 : Sch} {a1 : Sch} {va0 : Value} {va1 : Value} (h0 : Ro (kf cProd) w0 va0 a0.ps) (h1 : Ro (kf cProd) w0 va1 a1.ps) {r : Int} (hF : spec_l03Like a0 a1 = some r) :
    Calls Try.prog 43 [.agg ([vI a0.p, vI a0.n, vI a0.m, vI a0.k, va0]).toArray, .agg ([vI a1.p, vI a1.n, vI a1.m, vI a1.k, va1]).toArray].toArray w0 fun e w => ∃ v, e = .returned v ∧ Below w0.heap.size w0 w ∧ .int .i64 r = v := by
  refine calls_of (k := 41) Try.func43 rfl rfl (Nat.le_of_ble_eq_true rfl) fun a hf => ?_
  replace hf : Fr 41 a [(0, .agg ([vI a0.p, vI a0.n, vI a0.m, vI a0.k, va0]).toArray), (1, .agg ([vI a1.p, vI a1.n, vI a1.m, vI a1.k, va1]).toArray)] := hf
  refine c_start fun w ρ hw => ?_
  unfold spec_l03Like at hF
  refine c_seq <| c_region ?_
  refine sx_ hf (r_box (cs := [vI a0.p, vI a0.n, vI a0.m, vI a0.k, va0]) 1 hw hf rfl rfl) fun a v w hf hΦ => ?_
  obtain ⟨g1, ρ, rfl, hw, hE, o1⟩ := hΦ
  refine sx_ hf (r_box (cs := [vI a1.p, vI a1.n, vI a1.m, vI a1.k, va1]) 2 hw hf rfl rfl) fun a v w hf hΦ => ?_
  obtain ⟨g2, ρ, rfl, hw, hE, o2⟩ := hΦ
  replace o1 := o1.ext hE
  refine s_ hf (r_assign hf rfl) fun a hf => ?_
  refine c_nt <| c_seq <| c_block <| c_seq ?_
  obtain ⟨s2, hT1, hG1⟩ := of_bind hF
  clear hF
  refine c_meet (fun (s2 : Bool) a w => ∃ ρ, Wd w0 ρ w ∧ Fr 41 a [(2, .pointer (some ((⟨g1, 0, none⟩ : Addr).add 0))), (3, .pointer (some ((⟨g2, 0, none⟩ : Addr).add 0))), (5, .bool s2)] ∧ Va ρ w 1 g1 28 ([vI a0.p, vI a0.n, vI a0.m, vI a0.k, va0]) ∧ Va ρ w 2 g2 28 ([vI a1.p, vI a1.n, vI a1.m, vI a1.k, va1])) s2 ?_ ?_
  · have hF := hT1
    refine c_region ?_
    refine s_ hf (r_load_agg ty28 hf rfl o1.cl rfl) fun a hf => ?_
    obtain ⟨x3, hx4, hF⟩ := of_bind hF
    refine st_fn 3 hw hf rfl rfl (by decide) (r_fn en35 hf rfl) (spec_l01Is_ok (a0 := a0) (h0.now hw) hx4) fun a v w ρ hf hw hE hN hΦ => ?_
    obtain rfl := hΦ
    replace o1 := o1.ext hE
    replace o2 := o2.ext hE
    refine s_ hf (r_not hf rfl) fun a hf => ?_
    refine s_ hf (r_move hf rfl) fun a hf => ?_
    rcases of_ite hF with ⟨hb5, hF⟩ | ⟨hb5, hF⟩
    · refine st_no (b := true) hf rfl rfl rfl hb5 rfl (by decide) fun a hf => ?_
      refine st_no (b := true) hf rfl rfl rfl hb5 rfl (by decide) fun a hf => ?_
      refine st_no (b := true) hf rfl rfl rfl hb5 rfl (by decide) fun a hf => ?_
      refine s_ hf (r_pick (b := true) hf rfl hb5 rfl) fun a hf => ?_
      refine s_ hf (r_assign hf rfl) fun a hf => ?_
      refine c_nil ⟨rfl, ?_⟩
      obtain rfl := Option.some.inj hF
      exact ⟨_, hw, hf.sub ⟨rfl, rfl, rfl, trivial⟩, o1, o2⟩
    refine st_g (b := false) hf rfl rfl rfl hb5 rfl (by decide) (r_load_agg ty28 hf rfl o2.cl rfl) fun a hf => ?_
    obtain ⟨x6, hx7, hF⟩ := of_bind hF
    refine st_gfn (b := false) 4 hw hf rfl rfl rfl hb5 rfl (by decide) (r_fn en35 hf rfl) (spec_l01Is_ok (a0 := a1) (h1.now hw) hx7) fun a v w ρ hf hw hE hN hΦ => ?_
    obtain rfl := hΦ
    replace o1 := o1.ext hE
    replace o2 := o2.ext hE
    refine st_g (b := false) hf rfl rfl rfl hb5 rfl (by decide) (r_not hf rfl) fun a hf => ?_
    refine s_ hf (r_pick (b := false) hf rfl hb5 rfl) fun a hf => ?_
    refine s_ hf (r_assign hf rfl) fun a hf => ?_
    refine c_nil ⟨rfl, ?_⟩
    obtain rfl := Option.some.inj hF
    exact ⟨_, hw, hf.sub ⟨rfl, rfl, rfl, trivial⟩, o1, o2⟩
  rintro a w ⟨ρ, hw, hf, o1, o2⟩
  have hF := hG1
  refine n_then ?_
  rcases of_ite hF with ⟨hb8, hF⟩ | ⟨hb8, hF⟩
  · refine c_ift hf rfl hb8 <| c_seq <| c_region ?_
    refine s_ hf (r_assign hf rfl) fun a hf => ?_
    refine c_nt <| c_retc ?_
    obtain rfl := Option.some.inj hF
    refine r_block <| r_then <| c_ret hf (res_tmp Try.results43 hf rfl) ?_
    exact ⟨_, rfl, hw.below, rfl⟩
  refine c_iff hf rfl hb8 <| c_seq ?_
  obtain ⟨s10, hT9, hG9⟩ := of_bind hF
  clear hF
  refine c_meet (fun (s10 : Bool) a w => ∃ ρ, Wd w0 ρ w ∧ Fr 41 a [(14, .bool s10)]) s10 ?_ ?_
  · have hF := hT9
    refine c_region ?_
    refine s_ hf (r_fa fa28_0 hf rfl) fun a hf => ?_
    refine s_ hf (r_load_cell ty2 hf rfl (o1.cl.at_ 0 _ rfl)) fun a hf => ?_
    refine s_ hf (r_fa fa28_0 hf rfl) fun a hf => ?_
    refine s_ hf (r_load_cell ty2 hf rfl (o2.cl.at_ 0 _ rfl)) fun a hf => ?_
    refine s_ hf (r_neq hf rfl rfl) fun a hf => ?_
    refine s_ hf (r_move hf rfl) fun a hf => ?_
    rcases of_ite hF with ⟨hb11, hF⟩ | ⟨hb11, hF⟩
    · refine st_no (b := true) hf rfl rfl rfl hb11 rfl (by decide) fun a hf => ?_
      refine st_no (b := true) hf rfl rfl rfl hb11 rfl (by decide) fun a hf => ?_
      refine st_no (b := true) hf rfl rfl rfl hb11 rfl (by decide) fun a hf => ?_
      refine st_no (b := true) hf rfl rfl rfl hb11 rfl (by decide) fun a hf => ?_
      refine st_no (b := true) hf rfl rfl rfl hb11 rfl (by decide) fun a hf => ?_
      refine s_ hf (r_pick (b := true) hf rfl hb11 rfl) fun a hf => ?_
      refine s_ hf (r_move hf rfl) fun a hf => ?_
      refine st_no (b := true) hf rfl rfl rfl rfl rfl (by decide) fun a hf => ?_
      refine st_no (b := true) hf rfl rfl rfl rfl rfl (by decide) fun a hf => ?_
      refine st_no (b := true) hf rfl rfl rfl rfl rfl (by decide) fun a hf => ?_
      refine st_no (b := true) hf rfl rfl rfl rfl rfl (by decide) fun a hf => ?_
      refine st_no (b := true) hf rfl rfl rfl rfl rfl (by decide) fun a hf => ?_
      refine s_ hf (r_pick (b := true) hf rfl rfl rfl) fun a hf => ?_
      refine s_ hf (r_move hf rfl) fun a hf => ?_
      refine st_no (b := true) hf rfl rfl rfl rfl rfl (by decide) fun a hf => ?_
      refine st_no (b := true) hf rfl rfl rfl rfl rfl (by decide) fun a hf => ?_
      refine st_no (b := true) hf rfl rfl rfl rfl rfl (by decide) fun a hf => ?_
      refine st_no (b := true) hf rfl rfl rfl rfl rfl (by decide) fun a hf => ?_
      refine st_no (b := true) hf rfl rfl rfl rfl rfl (by decide) fun a hf => ?_
      refine s_ hf (r_pick (b := true) hf rfl rfl rfl) fun a hf => ?_
      refine s_ hf (r_assign hf rfl) fun a hf => ?_
      refine c_nil ⟨rfl, ?_⟩
      obtain rfl := Option.some.inj hF
      exact ⟨_, hw, hf.sub ⟨rfl, trivial⟩⟩
    refine st_g (b := false) hf rfl rfl rfl hb11 rfl (by decide) (r_fa fa28_1 hf rfl) fun a hf => ?_
    refine st_g (b := false) hf rfl rfl rfl hb11 rfl (by decide) (r_load_cell ty2 hf rfl (o1.cl.at_ 1 _ rfl)) fun a hf => ?_
    refine st_g (b := false) hf rfl rfl rfl hb11 rfl (by decide) (r_fa fa28_1 hf rfl) fun a hf => ?_
    refine st_g (b := false) hf rfl rfl rfl hb11 rfl (by decide) (r_load_cell ty2 hf rfl (o2.cl.at_ 1 _ rfl)) fun a hf => ?_
    refine st_g (b := false) hf rfl rfl rfl hb11 rfl (by decide) (r_neq hf rfl rfl) fun a hf => ?_
    refine s_ hf (r_pick (b := false) hf rfl hb11 rfl) fun a hf => ?_
    refine s_ hf (r_move hf rfl) fun a hf => ?_
    rcases of_ite hF with ⟨hb12, hF⟩ | ⟨hb12, hF⟩
    · refine st_no (b := true) hf rfl rfl rfl hb12 rfl (by decide) fun a hf => ?_
      refine st_no (b := true) hf rfl rfl rfl hb12 rfl (by decide) fun a hf => ?_
      refine st_no (b := true) hf rfl rfl rfl hb12 rfl (by decide) fun a hf => ?_
      refine st_no (b := true) hf rfl rfl rfl hb12 rfl (by decide) fun a hf => ?_
      refine st_no (b := true) hf rfl rfl rfl hb12 rfl (by decide) fun a hf => ?_
      refine s_ hf (r_pick (b := true) hf rfl hb12 rfl) fun a hf => ?_
      refine s_ hf (r_move hf rfl) fun a hf => ?_
      refine st_no (b := true) hf rfl rfl rfl rfl rfl (by decide) fun a hf => ?_
      refine st_no (b := true) hf rfl rfl rfl rfl rfl (by decide) fun a hf => ?_
      refine st_no (b := true) hf rfl rfl rfl rfl rfl (by decide) fun a hf => ?_
      refine st_no (b := true) hf rfl rfl rfl rfl rfl (by decide) fun a hf => ?_
      refine st_no (b := true) hf rfl rfl rfl rfl rfl (by decide) fun a hf => ?_
      refine s_ hf (r_pick (b := true) hf rfl rfl rfl) fun a hf => ?_
      refine s_ hf (r_assign hf rfl) fun a hf => ?_
      refine c_nil ⟨rfl, ?_⟩
      obtain rfl := Option.some.inj hF
      exact ⟨_, hw, hf.sub ⟨rfl, trivial⟩⟩
    refine st_g (b := false) hf rfl rfl rfl hb12 rfl (by decide) (r_fa fa28_2 hf rfl) fun a hf => ?_
    refine st_g (b := false) hf rfl rfl rfl hb12 rfl (by decide) (r_load_cell ty2 hf rfl (o1.cl.at_ 2 _ rfl)) fun a hf => ?_
    refine st_g (b := false) hf rfl rfl rfl hb12 rfl (by decide) (r_fa fa28_2 hf rfl) fun a hf => ?_
    refine st_g (b := false) hf rfl rfl rfl hb12 rfl (by decide) (r_load_cell ty2 hf rfl (o2.cl.at_ 2 _ rfl)) fun a hf => ?_
    refine st_g (b := false) hf rfl rfl rfl hb12 rfl (by decide) (r_neq hf rfl rfl) fun a hf => ?_
    refine s_ hf (r_pick (b := false) hf rfl hb12 rfl) fun a hf => ?_
    refine s_ hf (r_move hf rfl) fun a hf => ?_
    rcases of_ite hF with ⟨hb13, hF⟩ | ⟨hb13, hF⟩
    · refine st_no (b := true) hf rfl rfl rfl hb13 rfl (by decide) fun a hf => ?_
      refine st_no (b := true) hf rfl rfl rfl hb13 rfl (by decide) fun a hf => ?_
      refine st_no (b := true) hf rfl rfl rfl hb13 rfl (by decide) fun a hf => ?_
      refine st_no (b := true) hf rfl rfl rfl hb13 rfl (by decide) fun a hf => ?_
      refine st_no (b := true) hf rfl rfl rfl hb13 rfl (by decide) fun a hf => ?_
      refine s_ hf (r_pick (b := true) hf rfl hb13 rfl) fun a hf => ?_
      refine s_ hf (r_assign hf rfl) fun a hf => ?_
      refine c_nil ⟨rfl, ?_⟩
      obtain rfl := Option.some.inj hF
      exact ⟨_, hw, hf.sub ⟨rfl, trivial⟩⟩
    refine st_g (b := false) hf rfl rfl rfl hb13 rfl (by decide) (r_fa fa28_3 hf rfl) fun a hf => ?_
    refine st_g (b := false) hf rfl rfl rfl hb13 rfl (by decide) (r_load_cell ty2 hf rfl (o1.cl.at_ 3 _ rfl)) fun a hf => ?_
    refine st_g (b := false) hf rfl rfl rfl hb13 rfl (by decide) (r_fa fa28_3 hf rfl) fun a hf => ?_
    refine st_g (b := false) hf rfl rfl rfl hb13 rfl (by decide) (r_load_cell ty2 hf rfl (o2.cl.at_ 3 _ rfl)) fun a hf => ?_
    refine st_g (b := false) hf rfl rfl rfl hb13 rfl (by decide) (r_neq hf rfl rfl) fun a hf => ?_
    refine s_ hf (r_pick (b := false) hf rfl hb13 rfl) fun a hf => ?_
    refine s_ hf (r_assign hf rfl) fun a hf => ?_
    refine c_nil ⟨rfl, ?_⟩
    obtain rfl := Option.some.inj hF
    exact ⟨_, hw, hf.sub ⟨rfl, trivial⟩⟩
  rintro a w ⟨ρ, hw, hf⟩
  have hF := hG9
  refine n_then ?_
  rcases of_ite hF with ⟨hb14, hF⟩ | ⟨hb14, hF⟩
  · refine c_ift hf rfl hb14 <| c_seq <| c_region ?_
    refine s_ hf (r_assign hf rfl) fun a hf => ?_
    refine c_nt <| c_retc ?_
    obtain rfl := Option.some.inj hF
    refine r_block <| r_then <| c_ret hf (res_tmp Try.results43 hf rfl) ?_
    exact ⟨_, rfl, hw.below, rfl⟩
  refine c_iff hf rfl hb14 <| c_skip <| n_block <| n_then <| c_seq <| c_region ?_
  refine s_ hf (r_assign hf rfl) fun a hf => ?_
  refine c_nt <| c_retc ?_
  obtain rfl := Option.some.inj hF
  refine c_ret hf (res_tmp Try.results43 hf rfl) ?_
  exact ⟨_, rfl, hw.below, rfl⟩
/-! f17 -/
noncomputable def spec_AreEqualSchemes_l20 (x8 : Sch) (x16 : Sch) (s21 : Bool) (s22 : Int) : Option (LR (Bool × Int) (Bool × Int)) :=
  (if (decide (s22 < (x8.ps.length : Int))) = true then (some s21) else (some false)).bind fun (s24 : Bool) => if s24 = true then (if 0 ≤ s22 ∧ s22 < (x8.ps.length : Int) then (if 0 ≤ s22 ∧ s22 < (x16.ps.length : Int) then (some (.next (decide ((gl zProd x8.ps s22) = (gl zProd x16.ps s22)), w64 (s22 + 1)))) else none) else none) else (some (.stop (s21, s22)))
noncomputable def spec_AreEqualSchemes (a0 : Sch) (a1 : Sch) : Option (Bool × Int) :=
  (spec_l03Like a0 a1).bind fun x1 => if (decide (x1 ≠ 0)) = true then (some ((false, x1))) else ((spec_l03AllNormal a0).bind fun x4 => (spec_l01Sorted x4).bind fun x8 => (spec_l03AllNormal a1).bind fun x12 => (spec_l01Sorted x12).bind fun x16 => (iter (fun s => spec_AreEqualSchemes_l20 x8 x16 s.1 s.2) (decide ((x8.ps.length : Int) = (x16.ps.length : Int)), 0)).bind fun o => match o with | .stop (s21, s22) => (some ((s21, 0))) | .ret r => some r | .next _ => none)
theorem spec_AreEqualSchemes_ok {w0 : World} {a0 : Sch} {a1 : Sch} {va0 : Value} {va1 : Value} (h0 : Ro (kf cProd) w0 va0 a0.ps) (h1 : Ro (kf cProd) w0 va1 a1.ps) {r : Bool × Int} (hF : spec_AreEqualSchemes a0 a1 = some r) :
    Calls Try.prog 17 [.agg ([vI a0.p, vI a0.n, vI a0.m, vI a0.k, va0]).toArray, .agg ([vI a1.p, vI a1.n, vI a1.m, vI a1.k, va1]).toArray].toArray w0 fun e w => ∃ v, e = .returned v ∧ Below w0.heap.size w0 w ∧ .tuple #[.bool r.1, .int .i64 r.2] = v := by
  refine calls_of (k := 52) Try.func17 rfl rfl (Nat.le_of_ble_eq_true rfl) fun a hf => ?_
  replace hf : Fr 52 a [(0, .agg ([vI a0.p, vI a0.n, vI a0.m, vI a0.k, va0]).toArray), (1, .agg ([vI a1.p, vI a1.n, vI a1.m, vI a1.k, va1]).toArray)] := hf
  refine c_start fun w ρ hw => ?_
  unfold spec_AreEqualSchemes at hF
  refine c_seq <| c_region ?_
  refine sx_ hf (r_box (cs := [vI a0.p, vI a0.n, vI a0.m, vI a0.k, va0]) 1 hw hf rfl rfl) fun a v w hf hΦ => ?_
  obtain ⟨g1, ρ, rfl, hw, hE, o1⟩ := hΦ
  refine sx_ hf (r_box (cs := [vI a1.p, vI a1.n, vI a1.m, vI a1.k, va1]) 2 hw hf rfl rfl) fun a v w hf hΦ => ?_
  obtain ⟨g2, ρ, rfl, hw, hE, o2⟩ := hΦ
  replace o1 := o1.ext hE
  refine s_ hf (r_assign hf rfl) fun a hf => ?_
  refine s_ hf (r_assign hf rfl) fun a hf => ?_
  refine c_nt <| c_seq <| c_seq <| c_region ?_
  refine s_ hf (r_load_agg ty28 hf rfl o1.cl rfl) fun a hf => ?_
  refine s_ hf (r_load_agg ty28 hf rfl o2.cl rfl) fun a hf => ?_
  obtain ⟨x1, hx2, hF⟩ := of_bind hF
  refine st_fn 3 hw hf rfl rfl (by decide) (r_fn en43 hf rfl) (spec_l03Like_ok (a0 := a0) (a1 := a1) (h0.now hw) (h1.now hw) hx2) fun a v w ρ hf hw hE hN hΦ => ?_
  obtain rfl := hΦ
  replace o1 := o1.ext hE
  replace o2 := o2.ext hE
  refine s_ hf (r_assign hf rfl) fun a hf => ?_
  refine c_nt <| c_seq <| c_region ?_
  refine s_ hf (r_move hf rfl) fun a hf => ?_
  refine s_ hf (r_neq hf rfl rfl) fun a hf => ?_
  refine c_nt ?_
  rcases of_ite hF with ⟨hb3, hF⟩ | ⟨hb3, hF⟩
  · refine c_ift hf rfl hb3 <| c_seq <| c_region ?_
    refine s_ hf (r_move hf rfl) fun a hf => ?_
    refine s_ hf (r_assign hf rfl) fun a hf => ?_
    refine s_ hf (r_assign hf rfl) fun a hf => ?_
    refine c_nt <| c_retc ?_
    obtain rfl := Option.some.inj hF
    refine r_then <| c_ret hf (res_tt Try.results17 hf rfl rfl) ?_
    exact ⟨_, rfl, hw.below, rfl⟩
  refine c_iff hf rfl hb3 <| c_skip <| n_then <| c_seq ?_
  obtain ⟨x4, hx5, hF⟩ := of_bind hF
  obtain ⟨x8, hx9, hF⟩ := of_bind hF
  obtain ⟨x12, hx13, hF⟩ := of_bind hF
  obtain ⟨x16, hx17, hF⟩ := of_bind hF
  replace hf : Fr 52 a [(2, .pointer (some ((⟨g1, 0, none⟩ : Addr).add 0))), (3, .pointer (some ((⟨g2, 0, none⟩ : Addr).add 0)))] := hf.sub ⟨rfl, rfl, trivial⟩
  refine c_drawL (h := 8) mixed (by kernel_rfl) (by kernel_rfl) (fun ρ w => Va ρ w 1 g1 28 ([vI a0.p, vI a0.n, vI a0.m, vI a0.k, va0]) ∧ Va ρ w 2 g2 28 ([vI a1.p, vI a1.n, vI a1.m, vI a1.k, va1])) ?_ [fun ρ w v => .agg ([vI a0.p, vI a0.n, vI a0.m, vI a0.k, va0]).toArray = v, fun ρ w v => ∃ u6, .agg ([vI x4.p, vI x4.n, vI x4.m, vI x4.k, u6]).toArray = v ∧ O58 ρ w w0 4 u6 x4.ps, fun ρ w v => ∃ u10, .agg ([vI x8.p, vI x8.n, vI x8.m, vI x8.k, u10]).toArray = v ∧ O58 ρ w w0 5 u10 x8.ps, fun ρ w v => .agg ([vI a1.p, vI a1.n, vI a1.m, vI a1.k, va1]).toArray = v, fun ρ w v => ∃ u14, .agg ([vI x12.p, vI x12.n, vI x12.m, vI x12.k, u14]).toArray = v ∧ O58 ρ w w0 6 u14 x12.ps, fun ρ w v => ∃ u18, .agg ([vI x16.p, vI x16.n, vI x16.m, vI x16.k, u18]).toArray = v ∧ O58 ρ w w0 7 u18 x16.ps, fun ρ w v => ∃ g8, .pointer (some ((⟨g8, 0, none⟩ : Addr).add 0)) = v ∧ Va ρ w 8 g8 28 ([vI 0, vI 0, vI 0, vI 0, (.slice none 0 0)]) ∧ O58 ρ w w0 9 (.slice none 0 0) ([] : List Prod), fun ρ w v => ∃ g10, .pointer (some ((⟨g10, 0, none⟩ : Addr).add 0)) = v ∧ Va ρ w 10 g10 28 ([vI 0, vI 0, vI 0, vI 0, (.slice none 0 0)]) ∧ O58 ρ w w0 11 (.slice none 0 0) ([] : List Prod)] ?_ hw ⟨o1, o2⟩ hf ?_ ?_
  · intro ρ w ρ' w' hE hG
    obtain ⟨o1, o2⟩ := hG
    exact ⟨o1.ext hE, o2.ext hE⟩
  · exact LastsL.cons (fun _ _ _ _ _ _ h => h) <| LastsL.cons (fun _ _ _ _ _ hE h => by obtain ⟨u6, h, o4⟩ := h; exact ⟨_, h, o4.ext hE⟩) <| LastsL.cons (fun _ _ _ _ _ hE h => by obtain ⟨u10, h, o5⟩ := h; exact ⟨_, h, o5.ext hE⟩) <| LastsL.cons (fun _ _ _ _ _ _ h => h) <| LastsL.cons (fun _ _ _ _ _ hE h => by obtain ⟨u14, h, o6⟩ := h; exact ⟨_, h, o6.ext hE⟩) <| LastsL.cons (fun _ _ _ _ _ hE h => by obtain ⟨u18, h, o7⟩ := h; exact ⟨_, h, o7.ext hE⟩) <| LastsL.cons (fun _ _ _ _ _ hE h => by obtain ⟨g8, h, o8, o9⟩ := h; exact ⟨_, h, o8.ext hE, o9.ext hE⟩) <| LastsL.cons (fun _ _ _ _ _ hE h => by obtain ⟨g10, h, o10, o11⟩ := h; exact ⟨_, h, o10.ext hE, o11.ext hE⟩) <| LastsL.nil
  · refine StepsB.cons ?_ <| StepsB.cons ?_ <| StepsB.cons ?_ <| StepsB.cons ?_ <| StepsB.cons ?_ <| StepsB.cons ?_ <| StepsB.cons ?_ <| StepsB.cons ?_ <| StepsB.nil
    · intro ρ w a hw hG hf hd K hK
      obtain ⟨o1, o2⟩ := hG
      exact dv_ hK hw (wn rfl) (r_load_agg ty28 hf rfl o1.cl rfl) rfl
    · intro ρ w a hw hG hf hd K hK
      obtain ⟨o1, o2⟩ := hG
      obtain ⟨_, hf, rfl⟩ := got (hd 0 (by kernel_rfl)) hf
      refine dc_ hK hw (wn rfl) (r_fn en44 hf rfl) (spec_l03AllNormal_ok (a0 := a0) (h0.now hw) hx5) fun v w' hΦ => ?_
      obtain ⟨hb, hΦ⟩ := hΦ
      obtain ⟨u6, rfl, hr7⟩ := hΦ
      have hE := Ext.new (ρ := ρ) 4 hb
      have o4 := Fresh.own (ρ := ρ) (B := w0.heap.size) hr7 hw.below.size 4
      exact ⟨_, hw.new 4 hb, hE, ex_ <| an_ rfl <| o4⟩
    · intro ρ w a hw hG hf hd K hK
      obtain ⟨o1, o2⟩ := hG
      obtain ⟨_, hf, ⟨u6, rfl, o4⟩⟩ := got (hd 1 (by kernel_rfl)) hf
      refine dc_ hK hw (wn rfl) (r_fn en36 hf rfl) (spec_l01Sorted_ok (a0 := x4) o4.ro hx9) fun v w' hΦ => ?_
      obtain ⟨hb, hΦ⟩ := hΦ
      obtain ⟨u10, rfl, hr11⟩ := hΦ
      have hE := Ext.new (ρ := ρ) 5 hb
      have o5 := Fresh.own (ρ := ρ) (B := w0.heap.size) hr11 hw.below.size 5
      exact ⟨_, hw.new 5 hb, hE, ex_ <| an_ rfl <| o5⟩
    · intro ρ w a hw hG hf hd K hK
      obtain ⟨o1, o2⟩ := hG
      exact dv_ hK hw (wn rfl) (r_load_agg ty28 hf rfl o2.cl rfl) rfl
    · intro ρ w a hw hG hf hd K hK
      obtain ⟨o1, o2⟩ := hG
      obtain ⟨_, hf, rfl⟩ := got (hd 3 (by kernel_rfl)) hf
      refine dc_ hK hw (wn rfl) (r_fn en44 hf rfl) (spec_l03AllNormal_ok (a0 := a1) (h1.now hw) hx13) fun v w' hΦ => ?_
      obtain ⟨hb, hΦ⟩ := hΦ
      obtain ⟨u14, rfl, hr15⟩ := hΦ
      have hE := Ext.new (ρ := ρ) 6 hb
      have o6 := Fresh.own (ρ := ρ) (B := w0.heap.size) hr15 hw.below.size 6
      exact ⟨_, hw.new 6 hb, hE, ex_ <| an_ rfl <| o6⟩
    · intro ρ w a hw hG hf hd K hK
      obtain ⟨o1, o2⟩ := hG
      obtain ⟨_, hf, ⟨u14, rfl, o6⟩⟩ := got (hd 4 (by kernel_rfl)) hf
      refine dc_ hK hw (wn rfl) (r_fn en36 hf rfl) (spec_l01Sorted_ok (a0 := x12) o6.ro hx17) fun v w' hΦ => ?_
      obtain ⟨hb, hΦ⟩ := hΦ
      obtain ⟨u18, rfl, hr19⟩ := hΦ
      have hE := Ext.new (ρ := ρ) 7 hb
      have o7 := Fresh.own (ρ := ρ) (B := w0.heap.size) hr19 hw.below.size 7
      exact ⟨_, hw.new 7 hb, hE, ex_ <| an_ rfl <| o7⟩
    · intro ρ w a hw hG hf hd K hK
      obtain ⟨o1, o2⟩ := hG
      have o9 : Ow (kf cProd) 58 ρ w w0.heap.size 9 (.slice none 0 0) [] := Ow.nil _ _ _ _ _ _
      refine dx_ hK hw (wn rfl) (r_alloc (cs := [vI 0, vI 0, vI 0, vI 0, (.slice none 0 0)]) 8 ze28 rfl hw) fun v w' hΦ => ?_
      obtain ⟨g8, ρ, rfl, hw, hE, o8⟩ := hΦ
      replace o9 := o9.ext hE
      exact ⟨_, hw, hE, ex_ <| an_ rfl <| an_ o8 <| o9⟩
    · intro ρ w a hw hG hf hd K hK
      obtain ⟨o1, o2⟩ := hG
      have o11 : Ow (kf cProd) 58 ρ w w0.heap.size 11 (.slice none 0 0) [] := Ow.nil _ _ _ _ _ _
      refine dx_ hK hw (wn rfl) (r_alloc (cs := [vI 0, vI 0, vI 0, vI 0, (.slice none 0 0)]) 10 ze28 rfl hw) fun v w' hΦ => ?_
      obtain ⟨g10, ρ, rfl, hw, hE, o10⟩ := hΦ
      replace o11 := o11.ext hE
      exact ⟨_, hw, hE, ex_ <| an_ rfl <| an_ o10 <| o11⟩
  intro ρ w a hw hG hf hd
  obtain ⟨o1, o2⟩ := hG
  obtain ⟨_, hf, ⟨u10, rfl, o5⟩⟩ := got (hd 2 (by decide)) hf
  obtain ⟨_, hf, ⟨u18, rfl, o7⟩⟩ := got (hd 5 (by decide)) hf
  obtain ⟨_, hf, ⟨g8, rfl, o8, o9⟩⟩ := got (hd 6 (by decide)) hf
  obtain ⟨_, hf, ⟨g10, rfl, o10, o11⟩⟩ := got (hd 7 (by decide)) hf
  refine sk_ hf (r_store_w (cs' := [vI x8.p, vI x8.n, vI x8.m, vI x8.k, u10]) hw o8 (by decide) ty28 rfl rfl (one_sch o5.ro.one) hf rfl rfl rfl) fun a w hf hΦ => ?_
  obtain ⟨hw, hA, o8⟩ := hΦ
  replace o1 := o1.adv hA (by decide)
  replace o2 := o2.adv hA (by decide)
  replace o5 := o5.adv hA (by decide)
  replace o7 := o7.adv hA (by decide)
  replace o9 := o9.adv hA (by decide)
  replace o10 := o10.adv hA (by decide)
  replace o11 := o11.adv hA (by decide)
  refine sk_ hf (r_store_w (cs' := [vI x16.p, vI x16.n, vI x16.m, vI x16.k, u18]) hw o10 (by decide) ty28 rfl rfl (one_sch o7.ro.one) hf rfl rfl rfl) fun a w hf hΦ => ?_
  obtain ⟨hw, hA, o10⟩ := hΦ
  replace o1 := o1.adv hA (by decide)
  replace o2 := o2.adv hA (by decide)
  replace o5 := o5.adv hA (by decide)
  replace o7 := o7.adv hA (by decide)
  replace o8 := o8.adv hA (by decide)
  replace o9 := o9.adv hA (by decide)
  replace o11 := o11.adv hA (by decide)
  refine c_nt <| c_seq <| c_region ?_
  refine s_ hf (r_fa fa28_4 hf rfl) fun a hf => ?_
  refine s_ hf (r_load_cell ty26 hf rfl (o8.cl.at_ 4 _ rfl)) fun a hf => ?_
  refine s_ hf (r_len Try.underlying26 o5.ro hf rfl) fun a hf => ?_
  refine s_ hf (r_fa fa28_4 hf rfl) fun a hf => ?_
  refine s_ hf (r_load_cell ty26 hf rfl (o10.cl.at_ 4 _ rfl)) fun a hf => ?_
  refine s_ hf (r_len Try.underlying26 o7.ro hf rfl) fun a hf => ?_
  refine s_ hf (r_eql hf rfl rfl) fun a hf => ?_
  refine s_ hf (r_assign hf rfl) fun a hf => ?_
  refine c_nt <| c_seq <| c_seq <| c_region ?_
  refine s_ hf (r_assign hf rfl) fun a hf => ?_
  refine c_nt ?_
  obtain ⟨ol20, ho20, hG20⟩ := of_bind hF
  clear hF
  refine c_block (c_loop (id := 0) (fun s => spec_AreEqualSchemes_l20 x8 x16 s.1 s.2) (fun (s : Bool × Int) a w => match s with | (s21, s22) => ∃ ρ, Wd w0 ρ w ∧ Fr 52 a [(7, .pointer (some ((⟨g8, 0, none⟩ : Addr).add 0))), (8, .pointer (some ((⟨g10, 0, none⟩ : Addr).add 0))), (9, .bool s21), (10, vI s22)] ∧ O58 ρ w w0 5 u10 x8.ps ∧ O58 ρ w w0 7 u18 x16.ps ∧ Va ρ w 8 g8 28 ([vI x8.p, vI x8.n, vI x8.m, vI x8.k, u10]) ∧ Va ρ w 10 g10 28 ([vI x16.p, vI x16.n, vI x16.m, vI x16.k, u18])) (fun (s : Bool × Int) a w => match s with | (s21, s22) => ∃ ρ, Wd w0 ρ w ∧ Fr 52 a [(9, .bool s21)]) ho20 ⟨_, hw, hf.sub ⟨rfl, rfl, rfl, rfl, trivial⟩, o5, o7, o8, o10⟩ ?_ ?_)
  · rintro ⟨s21, s22⟩ lr a w ⟨ρ, hw, hf, o5, o7, o8, o10⟩ hF
    replace hF : spec_AreEqualSchemes_l20 x8 x16 s21 s22 = some lr := hF
    unfold spec_AreEqualSchemes_l20 at hF
    refine c_seq <| c_seq ?_
    obtain ⟨s24, hT23, hG23⟩ := of_bind hF
    clear hF
    refine c_meet (fun (s24 : Bool) a w => ∃ ρ, Wd w0 ρ w ∧ Fr 52 a [(7, .pointer (some ((⟨g8, 0, none⟩ : Addr).add 0))), (8, .pointer (some ((⟨g10, 0, none⟩ : Addr).add 0))), (9, .bool s21), (10, vI s22), (37, .bool s24)] ∧ O58 ρ w w0 5 u10 x8.ps ∧ O58 ρ w w0 7 u18 x16.ps ∧ Va ρ w 8 g8 28 ([vI x8.p, vI x8.n, vI x8.m, vI x8.k, u10]) ∧ Va ρ w 10 g10 28 ([vI x16.p, vI x16.n, vI x16.m, vI x16.k, u18])) s24 ?_ ?_
    · have hF := hT23
      refine c_region ?_
      refine s_ hf (r_move hf rfl) fun a hf => ?_
      refine s_ hf (r_fa fa28_4 hf rfl) fun a hf => ?_
      refine s_ hf (r_load_cell ty26 hf rfl (o8.cl.at_ 4 _ rfl)) fun a hf => ?_
      refine s_ hf (r_len Try.underlying26 o5.ro hf rfl) fun a hf => ?_
      refine s_ hf (r_lss hf rfl rfl) fun a hf => ?_
      refine s_ hf (r_move hf rfl) fun a hf => ?_
      rcases of_ite hF with ⟨hb25, hF⟩ | ⟨hb25, hF⟩
      rotate_left
      · refine st_no (b := false) hf rfl rfl rfl hb25 rfl (by decide) fun a hf => ?_
        refine s_ hf (r_pick (b := false) hf rfl hb25 rfl) fun a hf => ?_
        refine c_nil ⟨rfl, ?_⟩
        obtain rfl := Option.some.inj hF
        exact ⟨_, hw, hf.sub ⟨rfl, rfl, rfl, rfl, rfl, trivial⟩, o5, o7, o8, o10⟩
      refine st_g (b := true) hf rfl rfl rfl hb25 rfl (by decide) (r_move hf rfl) fun a hf => ?_
      refine s_ hf (r_pick (b := true) hf rfl hb25 rfl) fun a hf => ?_
      refine c_nil ⟨rfl, ?_⟩
      obtain rfl := Option.some.inj hF
      exact ⟨_, hw, hf.sub ⟨rfl, rfl, rfl, rfl, rfl, trivial⟩, o5, o7, o8, o10⟩
    rintro a w ⟨ρ, hw, hf, o5, o7, o8, o10⟩
    have hF := hG23
    refine n_then ?_
    rcases of_ite hF with ⟨hb26, hF⟩ | ⟨hb26, hF⟩
    rotate_left
    · refine c_iff hf rfl hb26 <| c_exit <| x_then ?_
      obtain rfl := Option.some.inj hF
      exact Rnd.stops ⟨_, hw, hf.sub ⟨rfl, trivial⟩⟩
    refine c_ift hf rfl hb26 <| c_skip <| n_then <| c_seq <| c_block ?_
    obtain ⟨hc27, hF⟩ := of_guard hF
    obtain ⟨hc29, hF⟩ := of_guard hF
    replace hf : Fr 52 a [(7, .pointer (some ((⟨g8, 0, none⟩ : Addr).add 0))), (8, .pointer (some ((⟨g10, 0, none⟩ : Addr).add 0))), (10, vI s22)] := hf.sub ⟨rfl, rfl, rfl, trivial⟩
    refine c_drawL (h := 10) mixed (by kernel_rfl) (by kernel_rfl) (fun ρ w => O58 ρ w w0 5 u10 x8.ps ∧ O58 ρ w w0 7 u18 x16.ps ∧ Va ρ w 8 g8 28 ([vI x8.p, vI x8.n, vI x8.m, vI x8.k, u10]) ∧ Va ρ w 10 g10 28 ([vI x16.p, vI x16.n, vI x16.m, vI x16.k, u18])) ?_ [fun ρ w v => .pointer (some ((⟨g8, 0, none⟩ : Addr).add (0 + 4))) = v, fun ρ w v => u10 = v, fun ρ w v => vI s22 = v, fun ρ w v => ∃ ad28, .pointer (some (ad28.add (s22.toNat * 27))) = v ∧ Ce ρ w 5 u10 x8.ps.length ad28 (s22.toNat * 27) (cProd.enc (gl zProd x8.ps s22)), fun ρ w v => .agg (cProd.enc (gl zProd x8.ps s22)).toArray = v, fun ρ w v => .pointer (some ((⟨g10, 0, none⟩ : Addr).add (0 + 4))) = v, fun ρ w v => u18 = v, fun ρ w v => vI s22 = v, fun ρ w v => ∃ ad30, .pointer (some (ad30.add (s22.toNat * 27))) = v ∧ Ce ρ w 7 u18 x16.ps.length ad30 (s22.toNat * 27) (cProd.enc (gl zProd x16.ps s22)), fun ρ w v => .agg (cProd.enc (gl zProd x16.ps s22)).toArray = v] ?_ hw ⟨o5, o7, o8, o10⟩ hf ?_ ?_
    · intro ρ w ρ' w' hE hG
      obtain ⟨o5, o7, o8, o10⟩ := hG
      exact ⟨o5.ext hE, o7.ext hE, o8.ext hE, o10.ext hE⟩
    · exact LastsL.cons (fun _ _ _ _ _ _ h => h) <| LastsL.cons (fun _ _ _ _ _ _ h => h) <| LastsL.cons (fun _ _ _ _ _ _ h => h) <| LastsL.cons (fun _ _ _ _ _ hE h => by obtain ⟨ad28, h, hl28⟩ := h; exact ⟨_, h, hl28.ext hE⟩) <| LastsL.cons (fun _ _ _ _ _ _ h => h) <| LastsL.cons (fun _ _ _ _ _ _ h => h) <| LastsL.cons (fun _ _ _ _ _ _ h => h) <| LastsL.cons (fun _ _ _ _ _ _ h => h) <| LastsL.cons (fun _ _ _ _ _ hE h => by obtain ⟨ad30, h, hl30⟩ := h; exact ⟨_, h, hl30.ext hE⟩) <| LastsL.cons (fun _ _ _ _ _ _ h => h) <| LastsL.nil
    · refine StepsB.cons ?_ <| StepsB.cons ?_ <| StepsB.cons ?_ <| StepsB.cons ?_ <| StepsB.cons ?_ <| StepsB.cons ?_ <| StepsB.cons ?_ <| StepsB.cons ?_ <| StepsB.cons ?_ <| StepsB.cons ?_ <| StepsB.nil
      · intro ρ w a hw hG hf hd K hK
        obtain ⟨o5, o7, o8, o10⟩ := hG
        exact dv_ hK hw (wn rfl) (r_fa fa28_4 hf rfl) rfl
      · intro ρ w a hw hG hf hd K hK
        obtain ⟨o5, o7, o8, o10⟩ := hG
        obtain ⟨_, hf, rfl⟩ := got (hd 0 (by kernel_rfl)) hf
        exact dv_ hK hw (wn rfl) (r_load_cell ty26 hf rfl (o8.cl.at_ 4 _ rfl)) rfl
      · intro ρ w a hw hG hf hd K hK
        obtain ⟨o5, o7, o8, o10⟩ := hG
        exact dv_ hK hw (wn rfl) (r_move hf rfl) rfl
      · intro ρ w a hw hG hf hd K hK
        obtain ⟨o5, o7, o8, o10⟩ := hG
        obtain ⟨_, hf, rfl⟩ := got (hd 1 (by kernel_rfl)) hf
        obtain ⟨_, hf, rfl⟩ := got (hd 2 (by kernel_rfl)) hf
        obtain ⟨ad28, hl28⟩ := Ow.ce (d := cProd) o5 zProd hc27.1 hc27.2
        exact dv_ hK hw (wn rfl) (r_idx Try.underlying26 sz58 hf rfl hl28.at_ rfl hc27.1 hc27.2) (ex_ <| an_ rfl <| hl28)
      · intro ρ w a hw hG hf hd K hK
        obtain ⟨o5, o7, o8, o10⟩ := hG
        obtain ⟨_, hf, ⟨ad28, rfl, hl28⟩⟩ := got (hd 3 (by kernel_rfl)) hf
        exact dv_ hK hw (wn rfl) (r_load_agg ty58 hf rfl hl28.co.cl (cProd.len _)) rfl
      · intro ρ w a hw hG hf hd K hK
        obtain ⟨o5, o7, o8, o10⟩ := hG
        exact dv_ hK hw (wn rfl) (r_fa fa28_4 hf rfl) rfl
      · intro ρ w a hw hG hf hd K hK
        obtain ⟨o5, o7, o8, o10⟩ := hG
        obtain ⟨_, hf, rfl⟩ := got (hd 5 (by kernel_rfl)) hf
        exact dv_ hK hw (wn rfl) (r_load_cell ty26 hf rfl (o10.cl.at_ 4 _ rfl)) rfl
      · intro ρ w a hw hG hf hd K hK
        obtain ⟨o5, o7, o8, o10⟩ := hG
        exact dv_ hK hw (wn rfl) (r_move hf rfl) rfl
      · intro ρ w a hw hG hf hd K hK
        obtain ⟨o5, o7, o8, o10⟩ := hG
        obtain ⟨_, hf, rfl⟩ := got (hd 6 (by kernel_rfl)) hf
        obtain ⟨_, hf, rfl⟩ := got (hd 7 (by kernel_rfl)) hf
        obtain ⟨ad30, hl30⟩ := Ow.ce (d := cProd) o7 zProd hc29.1 hc29.2
        exact dv_ hK hw (wn rfl) (r_idx Try.underlying26 sz58 hf rfl hl30.at_ rfl hc29.1 hc29.2) (ex_ <| an_ rfl <| hl30)
      · intro ρ w a hw hG hf hd K hK
        obtain ⟨o5, o7, o8, o10⟩ := hG
        obtain ⟨_, hf, ⟨ad30, rfl, hl30⟩⟩ := got (hd 8 (by kernel_rfl)) hf
        exact dv_ hK hw (wn rfl) (r_load_agg ty58 hf rfl hl30.co.cl (cProd.len _)) rfl
    intro ρ w a hw hG hf hd
    obtain ⟨o5, o7, o8, o10⟩ := hG
    obtain ⟨_, hf, rfl⟩ := got (hd 4 (by decide)) hf
    obtain ⟨_, hf, rfl⟩ := got (hd 9 (by decide)) hf
    refine s_ hf (r_eq (d := cProd) eq58 ⟨_, rfl⟩ gt58 hf rfl rfl) fun a hf => ?_
    refine s_ hf (r_assign hf rfl) fun a hf => ?_
    refine c_nil <| n_block <| n_then <| c_region ?_
    refine s_ hf (r_move hf rfl) fun a hf => ?_
    refine s_ hf (r_add hf rfl rfl) fun a hf => ?_
    refine s_ hf (r_assign hf rfl) fun a hf => ?_
    refine c_nil ?_
    obtain rfl := Option.some.inj hF
    exact Rnd.goes ⟨_, hw, hf.sub ⟨rfl, rfl, rfl, rfl, trivial⟩, o5, o7, o8, o10⟩
  rintro ⟨s21, s22⟩ a w hs ⟨ρ, hw, hf⟩
  subst hs
  have hF := hG20
  dsimp only at hF
  refine x_block <| n_then <| c_seq <| c_region ?_
  refine s_ hf (r_move hf rfl) fun a hf => ?_
  refine s_ hf (r_assign hf rfl) fun a hf => ?_
  refine s_ hf (r_assign hf rfl) fun a hf => ?_
  refine c_nt <| c_retc ?_
  obtain rfl := Option.some.inj hF
  refine c_ret hf (res_tt Try.results17 hf rfl rfl) ?_
  exact ⟨_, rfl, hw.below, rfl⟩
/-! f86 -/
noncomputable def impl_areSchemes_l1 (a0 : List Sch) (s2 : Int) : Option (LR Int Bool) :=
  if (decide (s2 < (a0.length : Int))) = true then (if 0 ≤ s2 ∧ s2 < (a0.length : Int) then ((impl_IsScheme (gl zSch a0 s2)).bind fun x6 => if (!x6) = true then (some (.ret false)) else (some (.next (w64 (s2 + 1))))) else none) else (some (.stop s2))
noncomputable def impl_areSchemes (a0 : List Sch) : Option Bool :=
  (iter (fun s => impl_areSchemes_l1 a0 s) 0).bind fun o => match o with | .stop s2 => (some (true)) | .ret r => some r | .next _ => none
theorem impl_areSchemes_ok {w0 : World} {a0 : List Sch} {va0 : Value} (h0 : Ro kSch w0 va0 a0) {r : Bool} (hF : impl_areSchemes a0 = some r) :
    Calls Try.prog 86 [va0].toArray w0 fun e w => ∃ v, e = .returned v ∧ Below w0.heap.size w0 w ∧ .bool r = v := by
  refine calls_of (k := 15) Try.func86 rfl rfl (Nat.le_of_ble_eq_true rfl) fun a hf => ?_
  replace hf : Fr 15 a [(0, va0)] := hf
  refine c_start fun w ρ hw => ?_
  unfold impl_areSchemes at hF
  refine c_seq <| c_region ?_
  refine s_ hf (r_assign hf rfl) fun a hf => ?_
  refine c_nt <| c_seq <| c_seq <| c_region ?_
  refine s_ hf (r_move hf rfl) fun a hf => ?_
  refine s_ hf (r_len Try.underlying124 (h0.now hw) hf rfl) fun a hf => ?_
  refine s_ hf (r_move hf rfl) fun a hf => ?_
  refine c_nt ?_
  obtain ⟨ol1, ho1, hG1⟩ := of_bind hF
  clear hF
  refine c_block (c_loop (id := 0) (fun s => impl_areSchemes_l1 a0 s) (fun (s2 : Int) a w => ∃ ρ, Wd w0 ρ w ∧ Fr 15 a [(5, va0), (6, vI (a0.length : Int)), (7, vI s2)]) (fun (s2 : Int) a w => ∃ ρ, Wd w0 ρ w ∧ Fr 15 a []) ho1 ⟨_, hw, hf.sub ⟨rfl, rfl, rfl, trivial⟩⟩ ?_ ?_)
  · rintro s2 lr a w ⟨ρ, hw, hf⟩ hF
    replace hF : impl_areSchemes_l1 a0 s2 = some lr := hF
    unfold impl_areSchemes_l1 at hF
    refine c_seq <| c_region ?_
    refine s_ hf (r_lss hf rfl rfl) fun a hf => ?_
    refine c_nt <| c_seq ?_
    rcases of_ite hF with ⟨hb3, hF⟩ | ⟨hb3, hF⟩
    rotate_left
    · refine c_iff hf rfl hb3 <| c_exit <| x_then ?_
      obtain rfl := Option.some.inj hF
      exact Rnd.stops ⟨_, hw, hf.sub trivial⟩
    refine c_ift hf rfl hb3 <| c_skip <| n_then <| c_seq <| c_block <| c_seq <| c_region ?_
    obtain ⟨hc4, hF⟩ := of_guard hF
    obtain ⟨ad5, c5, u5, he5, hl5, ho5⟩ := Ro.el_sch h0 hc4.1 hc4.2
    refine s_ hf (r_idx Try.underlying124 sz28 hf rfl ⟨_, he5⟩ rfl hc4.1 hc4.2) fun a hf => ?_
    refine s_ hf (r_load_agg ty28 hf rfl (hl5.below hw.below) rfl) fun a hf => ?_
    have o2 : Ow (kf cProd) 58 ρ w w0.heap.size 2 (.slice none 0 0) [] := Ow.nil _ _ _ _ _ _
    refine sx_ hf (r_alloc (cs := [vI 0, vI 0, vI 0, vI 0, (.slice none 0 0)]) 1 ze28 rfl hw) fun a v w hf hΦ => ?_
    obtain ⟨g1, ρ, rfl, hw, hE, o1⟩ := hΦ
    replace o2 := o2.ext hE
    refine sk_ hf (r_store_w (cs' := [vI ((gl zSch a0 s2).p), vI ((gl zSch a0 s2).n), vI ((gl zSch a0 s2).m), vI ((gl zSch a0 s2).k), u5]) hw o1 (by decide) ty28 rfl rfl (one_sch (ho5.now hw).one) hf rfl rfl rfl) fun a w hf hΦ => ?_
    obtain ⟨hw, hA, o1⟩ := hΦ
    replace o2 := o2.adv hA (by decide)
    refine c_nt <| c_seq <| c_region ?_
    refine s_ hf (r_load_agg ty28 hf rfl o1.cl rfl) fun a hf => ?_
    obtain ⟨x6, hx7, hF⟩ := of_bind hF
    refine st_fn 3 hw hf rfl rfl (by decide) (r_fn en38 hf rfl) (impl_IsScheme_ok (a0 := (gl zSch a0 s2)) (ho5.now hw) hx7) fun a v w ρ hf hw hE hN hΦ => ?_
    obtain rfl := hΦ
    replace o2 := o2.ext hE
    replace o1 := o1.ext hE
    refine s_ hf (r_not hf rfl) fun a hf => ?_
    refine c_nt ?_
    rcases of_ite hF with ⟨hb8, hF⟩ | ⟨hb8, hF⟩
    rotate_left
    · refine c_iff hf rfl hb8 <| c_skip <| n_block <| n_then <| c_region ?_
      refine s_ hf (r_add hf rfl rfl) fun a hf => ?_
      refine s_ hf (r_move hf rfl) fun a hf => ?_
      refine c_nil ?_
      obtain rfl := Option.some.inj hF
      exact Rnd.goes ⟨_, hw, hf.sub ⟨rfl, rfl, rfl, trivial⟩⟩
    refine c_ift hf rfl hb8 <| c_seq <| c_region ?_
    refine s_ hf (r_assign hf rfl) fun a hf => ?_
    refine c_nt <| c_retc ?_
    obtain rfl := Option.some.inj hF
    refine r_block <| r_then ?_
    refine Rnd.rets fun ho => ?_
    subst ho
    have hF := hG1
    dsimp only at hF
    obtain rfl := Option.some.inj hF
    refine r_block <| r_then <| c_ret hf (res_tmp Try.results86 hf rfl) ?_
    exact ⟨_, rfl, hw.below, rfl⟩
  rintro s2 a w hs ⟨ρ, hw, hf⟩
  subst hs
  have hF := hG1
  dsimp only at hF
  refine x_block <| n_then <| c_seq <| c_region ?_
  refine s_ hf (r_assign hf rfl) fun a hf => ?_
  refine c_nt <| c_retc ?_
  obtain rfl := Option.some.inj hF
  refine c_ret hf (res_tmp Try.results86 hf rfl) ?_
  exact ⟨_, rfl, hw.below, rfl⟩
/-! f45 -/
noncomputable def impl_pairCode (a0 : Sch) (a1 : Sch) : Option Int :=
  (impl_areSchemes ([a0, a1])).bind fun x1 => if (!x1) = true then (some (1)) else ((if (decide (a0.p ≠ a1.p)) = true then (some true) else (if (decide (a0.n ≠ a1.n)) = true then (some true) else (if (decide (a0.m ≠ a1.m)) = true then (some true) else (some (decide (a0.k ≠ a1.k)))))).bind fun (s5 : Bool) => if s5 = true then (some (2)) else (some (0)))
theorem impl_pairCode_ok {w0 : World} {a0 : Sch} {a1 : Sch} {va0 : Value} {va1 : Value} (h0 : Ro (kf cProd) w0 va0 a0.ps) (h1 : Ro (kf cProd) w0 va1 a1.ps) {r : Int} (hF : impl_pairCode a0 a1 = some r) :
    Calls Try.prog 45 [.agg ([vI a0.p, vI a0.n, vI a0.m, vI a0.k, va0]).toArray, .agg ([vI a1.p, vI a1.n, vI a1.m, vI a1.k, va1]).toArray].toArray w0 fun e w => ∃ v, e = .returned v ∧ Below w0.heap.size w0 w ∧ .int .i64 r = v := by
  refine calls_of (k := 38) Try.func45 rfl rfl (Nat.le_of_ble_eq_true rfl) fun a hf => ?_
  replace hf : Fr 38 a [(0, .agg ([vI a0.p, vI a0.n, vI a0.m, vI a0.k, va0]).toArray), (1, .agg ([vI a1.p, vI a1.n, vI a1.m, vI a1.k, va1]).toArray)] := hf
  refine c_start fun w ρ hw => ?_
  unfold impl_pairCode at hF
  refine c_seq <| c_region ?_
  refine sx_ hf (r_box (cs := [vI a0.p, vI a0.n, vI a0.m, vI a0.k, va0]) 1 hw hf rfl rfl) fun a v w hf hΦ => ?_
  obtain ⟨g1, ρ, rfl, hw, hE, o1⟩ := hΦ
  refine sx_ hf (r_box (cs := [vI a1.p, vI a1.n, vI a1.m, vI a1.k, va1]) 2 hw hf rfl rfl) fun a v w hf hΦ => ?_
  obtain ⟨g2, ρ, rfl, hw, hE, o2⟩ := hΦ
  replace o1 := o1.ext hE
  refine s_ hf (r_assign hf rfl) fun a hf => ?_
  refine c_nt <| c_seq <| c_block <| c_seq <| c_region ?_
  refine s_ hf (r_load_agg ty28 hf rfl o1.cl rfl) fun a hf => ?_
  refine s_ hf (r_load_agg ty28 hf rfl o2.cl rfl) fun a hf => ?_
  refine sx_ hf (r_lit_ro (d := kSch) (m := 5) (xs := ([a0, a1] : List Sch)) (raws := [⟨[vI a0.p, vI a0.n, vI a0.m, vI a0.k, va0], rfl, one_sch (h0.now hw).one⟩, ⟨[vI a1.p, vI a1.n, vI a1.m, vI a1.k, va1], rfl, one_sch (h1.now hw).one⟩]) (vs := [.agg ([vI a0.p, vI a0.n, vI a0.m, vI a0.k, va0]).toArray, .agg ([vI a1.p, vI a1.n, vI a1.m, vI a1.k, va1]).toArray]) rfl Try.underlying124 el28 (Nat.le_of_ble_eq_true rfl) (Nat.le_of_ble_eq_true rfl) hw hf rfl rfl rfl ⟨⟨_, rfl, (h0.now hw)⟩, ⟨⟨_, rfl, (h1.now hw)⟩, trivial⟩⟩) fun a v3 w hf hΦ => ?_
  obtain ⟨ρ, hw, hE, o3⟩ := hΦ
  replace o1 := o1.ext hE
  replace o2 := o2.ext hE
  obtain ⟨x1, hx2, hF⟩ := of_bind hF
  refine st_fn 4 hw hf rfl rfl (by decide) (r_fn en86 hf rfl) (impl_areSchemes_ok o3 hx2) fun a v w ρ hf hw hE hN hΦ => ?_
  obtain rfl := hΦ
  replace o1 := o1.ext hE
  replace o2 := o2.ext hE
  replace o3 := o3.ext hE
  refine s_ hf (r_not hf rfl) fun a hf => ?_
  refine s_ hf (r_assign hf rfl) fun a hf => ?_
  refine c_nt ?_
  rcases of_ite hF with ⟨hb3, hF⟩ | ⟨hb3, hF⟩
  · refine c_ift hf rfl hb3 <| c_seq <| c_region ?_
    refine s_ hf (r_assign hf rfl) fun a hf => ?_
    refine c_nt <| c_retc ?_
    obtain rfl := Option.some.inj hF
    refine r_block <| r_then <| c_ret hf (res_tmp Try.results45 hf rfl) ?_
    exact ⟨_, rfl, hw.below, rfl⟩
  refine c_iff hf rfl hb3 <| c_seq ?_
  obtain ⟨s5, hT4, hG4⟩ := of_bind hF
  clear hF
  refine c_meet (fun (s5 : Bool) a w => ∃ ρ, Wd w0 ρ w ∧ Fr 38 a [(11, .bool s5)]) s5 ?_ ?_
  · have hF := hT4
    refine c_region ?_
    refine s_ hf (r_fa fa28_0 hf rfl) fun a hf => ?_
    refine s_ hf (r_load_cell ty2 hf rfl (o1.cl.at_ 0 _ rfl)) fun a hf => ?_
    refine s_ hf (r_fa fa28_0 hf rfl) fun a hf => ?_
    refine s_ hf (r_load_cell ty2 hf rfl (o2.cl.at_ 0 _ rfl)) fun a hf => ?_
    refine s_ hf (r_neq hf rfl rfl) fun a hf => ?_
    refine s_ hf (r_move hf rfl) fun a hf => ?_
    rcases of_ite hF with ⟨hb6, hF⟩ | ⟨hb6, hF⟩
    · refine st_no (b := true) hf rfl rfl rfl hb6 rfl (by decide) fun a hf => ?_
      refine st_no (b := true) hf rfl rfl rfl hb6 rfl (by decide) fun a hf => ?_
      refine st_no (b := true) hf rfl rfl rfl hb6 rfl (by decide) fun a hf => ?_
      refine st_no (b := true) hf rfl rfl rfl hb6 rfl (by decide) fun a hf => ?_
      refine st_no (b := true) hf rfl rfl rfl hb6 rfl (by decide) fun a hf => ?_
      refine s_ hf (r_pick (b := true) hf rfl hb6 rfl) fun a hf => ?_
      refine s_ hf (r_move hf rfl) fun a hf => ?_
      refine st_no (b := true) hf rfl rfl rfl rfl rfl (by decide) fun a hf => ?_
      refine st_no (b := true) hf rfl rfl rfl rfl rfl (by decide) fun a hf => ?_
      refine st_no (b := true) hf rfl rfl rfl rfl rfl (by decide) fun a hf => ?_
      refine st_no (b := true) hf rfl rfl rfl rfl rfl (by decide) fun a hf => ?_
      refine st_no (b := true) hf rfl rfl rfl rfl rfl (by decide) fun a hf => ?_
      refine s_ hf (r_pick (b := true) hf rfl rfl rfl) fun a hf => ?_
      refine s_ hf (r_move hf rfl) fun a hf => ?_
      refine st_no (b := true) hf rfl rfl rfl rfl rfl (by decide) fun a hf => ?_
      refine st_no (b := true) hf rfl rfl rfl rfl rfl (by decide) fun a hf => ?_
      refine st_no (b := true) hf rfl rfl rfl rfl rfl (by decide) fun a hf => ?_
      refine st_no (b := true) hf rfl rfl rfl rfl rfl (by decide) fun a hf => ?_
      refine st_no (b := true) hf rfl rfl rfl rfl rfl (by decide) fun a hf => ?_
      refine s_ hf (r_pick (b := true) hf rfl rfl rfl) fun a hf => ?_
      refine s_ hf (r_assign hf rfl) fun a hf => ?_
      refine c_nil ⟨rfl, ?_⟩
      obtain rfl := Option.some.inj hF
      exact ⟨_, hw, hf.sub ⟨rfl, trivial⟩⟩
    refine st_g (b := false) hf rfl rfl rfl hb6 rfl (by decide) (r_fa fa28_1 hf rfl) fun a hf => ?_
    refine st_g (b := false) hf rfl rfl rfl hb6 rfl (by decide) (r_load_cell ty2 hf rfl (o1.cl.at_ 1 _ rfl)) fun a hf => ?_
    refine st_g (b := false) hf rfl rfl rfl hb6 rfl (by decide) (r_fa fa28_1 hf rfl) fun a hf => ?_
    refine st_g (b := false) hf rfl rfl rfl hb6 rfl (by decide) (r_load_cell ty2 hf rfl (o2.cl.at_ 1 _ rfl)) fun a hf => ?_
    refine st_g (b := false) hf rfl rfl rfl hb6 rfl (by decide) (r_neq hf rfl rfl) fun a hf => ?_
    refine s_ hf (r_pick (b := false) hf rfl hb6 rfl) fun a hf => ?_
    refine s_ hf (r_move hf rfl) fun a hf => ?_
    rcases of_ite hF with ⟨hb7, hF⟩ | ⟨hb7, hF⟩
    · refine st_no (b := true) hf rfl rfl rfl hb7 rfl (by decide) fun a hf => ?_
      refine st_no (b := true) hf rfl rfl rfl hb7 rfl (by decide) fun a hf => ?_
      refine st_no (b := true) hf rfl rfl rfl hb7 rfl (by decide) fun a hf => ?_
      refine st_no (b := true) hf rfl rfl rfl hb7 rfl (by decide) fun a hf => ?_
      refine st_no (b := true) hf rfl rfl rfl hb7 rfl (by decide) fun a hf => ?_
      refine s_ hf (r_pick (b := true) hf rfl hb7 rfl) fun a hf => ?_
      refine s_ hf (r_move hf rfl) fun a hf => ?_
      refine st_no (b := true) hf rfl rfl rfl rfl rfl (by decide) fun a hf => ?_
      refine st_no (b := true) hf rfl rfl rfl rfl rfl (by decide) fun a hf => ?_
      refine st_no (b := true) hf rfl rfl rfl rfl rfl (by decide) fun a hf => ?_
      refine st_no (b := true) hf rfl rfl rfl rfl rfl (by decide) fun a hf => ?_
      refine st_no (b := true) hf rfl rfl rfl rfl rfl (by decide) fun a hf => ?_
      refine s_ hf (r_pick (b := true) hf rfl rfl rfl) fun a hf => ?_
      refine s_ hf (r_assign hf rfl) fun a hf => ?_
      refine c_nil ⟨rfl, ?_⟩
      obtain rfl := Option.some.inj hF
      exact ⟨_, hw, hf.sub ⟨rfl, trivial⟩⟩
    refine st_g (b := false) hf rfl rfl rfl hb7 rfl (by decide) (r_fa fa28_2 hf rfl) fun a hf => ?_
    refine st_g (b := false) hf rfl rfl rfl hb7 rfl (by decide) (r_load_cell ty2 hf rfl (o1.cl.at_ 2 _ rfl)) fun a hf => ?_
    refine st_g (b := false) hf rfl rfl rfl hb7 rfl (by decide) (r_fa fa28_2 hf rfl) fun a hf => ?_
    refine st_g (b := false) hf rfl rfl rfl hb7 rfl (by decide) (r_load_cell ty2 hf rfl (o2.cl.at_ 2 _ rfl)) fun a hf => ?_
    refine st_g (b := false) hf rfl rfl rfl hb7 rfl (by decide) (r_neq hf rfl rfl) fun a hf => ?_
    refine s_ hf (r_pick (b := false) hf rfl hb7 rfl) fun a hf => ?_
    refine s_ hf (r_move hf rfl) fun a hf => ?_
    rcases of_ite hF with ⟨hb8, hF⟩ | ⟨hb8, hF⟩
    · refine st_no (b := true) hf rfl rfl rfl hb8 rfl (by decide) fun a hf => ?_
      refine st_no (b := true) hf rfl rfl rfl hb8 rfl (by decide) fun a hf => ?_
      refine st_no (b := true) hf rfl rfl rfl hb8 rfl (by decide) fun a hf => ?_
      refine st_no (b := true) hf rfl rfl rfl hb8 rfl (by decide) fun a hf => ?_
      refine st_no (b := true) hf rfl rfl rfl hb8 rfl (by decide) fun a hf => ?_
      refine s_ hf (r_pick (b := true) hf rfl hb8 rfl) fun a hf => ?_
      refine s_ hf (r_assign hf rfl) fun a hf => ?_
      refine c_nil ⟨rfl, ?_⟩
      obtain rfl := Option.some.inj hF
      exact ⟨_, hw, hf.sub ⟨rfl, trivial⟩⟩
    refine st_g (b := false) hf rfl rfl rfl hb8 rfl (by decide) (r_fa fa28_3 hf rfl) fun a hf => ?_
    refine st_g (b := false) hf rfl rfl rfl hb8 rfl (by decide) (r_load_cell ty2 hf rfl (o1.cl.at_ 3 _ rfl)) fun a hf => ?_
    refine st_g (b := false) hf rfl rfl rfl hb8 rfl (by decide) (r_fa fa28_3 hf rfl) fun a hf => ?_
    refine st_g (b := false) hf rfl rfl rfl hb8 rfl (by decide) (r_load_cell ty2 hf rfl (o2.cl.at_ 3 _ rfl)) fun a hf => ?_
    refine st_g (b := false) hf rfl rfl rfl hb8 rfl (by decide) (r_neq hf rfl rfl) fun a hf => ?_
    refine s_ hf (r_pick (b := false) hf rfl hb8 rfl) fun a hf => ?_
    refine s_ hf (r_assign hf rfl) fun a hf => ?_
    refine c_nil ⟨rfl, ?_⟩
    obtain rfl := Option.some.inj hF
    exact ⟨_, hw, hf.sub ⟨rfl, trivial⟩⟩
  rintro a w ⟨ρ, hw, hf⟩
  have hF := hG4
  refine n_then ?_
  rcases of_ite hF with ⟨hb9, hF⟩ | ⟨hb9, hF⟩
  · refine c_ift hf rfl hb9 <| c_seq <| c_region ?_
    refine s_ hf (r_assign hf rfl) fun a hf => ?_
    refine c_nt <| c_retc ?_
    obtain rfl := Option.some.inj hF
    refine r_block <| r_then <| c_ret hf (res_tmp Try.results45 hf rfl) ?_
    exact ⟨_, rfl, hw.below, rfl⟩
  refine c_iff hf rfl hb9 <| c_skip <| n_block <| n_then <| c_seq <| c_region ?_
  refine s_ hf (r_assign hf rfl) fun a hf => ?_
  refine c_nt <| c_retc ?_
  obtain rfl := Option.some.inj hF
  refine c_ret hf (res_tmp Try.results45 hf rfl) ?_
  exact ⟨_, rfl, hw.below, rfl⟩
/-! f46 -/
noncomputable def slices_Equal_46_l2 (a0 : List Prod) (a1 : List Prod) (s3 : Int) : Option (LR Int Bool) :=
  if (decide (s3 < (a0.length : Int))) = true then (if 0 ≤ s3 ∧ s3 < (a0.length : Int) then (if 0 ≤ s3 ∧ s3 < (a1.length : Int) then (if (decide ((gl zProd a0 s3) ≠ (gl zProd a1 s3))) = true then (some (.ret false)) else (some (.next (w64 (s3 + 1))))) else none) else none) else (some (.stop s3))
noncomputable def slices_Equal_46 (a0 : List Prod) (a1 : List Prod) : Option Bool :=
  if (decide ((a0.length : Int) ≠ (a1.length : Int))) = true then (some (false)) else ((iter (fun s => slices_Equal_46_l2 a0 a1 s) 0).bind fun o => match o with | .stop s3 => (some (true)) | .ret r => some r | .next _ => none)
theorem slices_Equal_46_ok {w0 : World} {a0 : List Prod} {a1 : List Prod} {va0 : Value} {va1 : Value} (h0 : Ro (kf cProd) w0 va0 a0) (h1 : Ro (kf cProd) w0 va1 a1) {r : Bool} (hF : slices_Equal_46 a0 a1 = some r) :
    Calls Try.prog 46 [va0, va1].toArray w0 fun e w => ∃ v, e = .returned v ∧ Below w0.heap.size w0 w ∧ .bool r = v := by
  refine calls_of (k := 26) Try.func46 rfl rfl (Nat.le_of_ble_eq_true rfl) fun a hf => ?_
  replace hf : Fr 26 a [(0, va0), (1, va1)] := hf
  refine c_start fun w ρ hw => ?_
  unfold slices_Equal_46 at hF
  refine c_seq <| c_region ?_
  refine s_ hf (r_assign hf rfl) fun a hf => ?_
  refine c_nt <| c_seq <| c_seq <| c_region ?_
  refine s_ hf (r_move hf rfl) fun a hf => ?_
  refine s_ hf (r_len Try.underlying26 (h0.now hw) hf rfl) fun a hf => ?_
  refine s_ hf (r_move hf rfl) fun a hf => ?_
  refine s_ hf (r_len Try.underlying26 (h1.now hw) hf rfl) fun a hf => ?_
  refine s_ hf (r_neq hf rfl rfl) fun a hf => ?_
  refine c_nt ?_
  rcases of_ite hF with ⟨hb1, hF⟩ | ⟨hb1, hF⟩
  · refine c_ift hf rfl hb1 <| c_seq <| c_region ?_
    refine s_ hf (r_assign hf rfl) fun a hf => ?_
    refine c_nt <| c_retc ?_
    obtain rfl := Option.some.inj hF
    refine r_then <| c_ret hf (res_tmp Try.results46 hf rfl) ?_
    exact ⟨_, rfl, hw.below, rfl⟩
  refine c_iff hf rfl hb1 <| c_skip <| n_then <| c_seq <| c_seq <| c_region ?_
  refine s_ hf (r_move hf rfl) fun a hf => ?_
  refine s_ hf (r_len Try.underlying26 (h0.now hw) hf rfl) fun a hf => ?_
  refine s_ hf (r_move hf rfl) fun a hf => ?_
  refine c_nt ?_
  obtain ⟨ol2, ho2, hG2⟩ := of_bind hF
  clear hF
  refine c_block (c_loop (id := 0) (fun s => slices_Equal_46_l2 a0 a1 s) (fun (s3 : Int) a w => ∃ ρ, Wd w0 ρ w ∧ Fr 26 a [(0, va0), (1, va1), (12, vI (a0.length : Int)), (13, vI s3)]) (fun (s3 : Int) a w => ∃ ρ, Wd w0 ρ w ∧ Fr 26 a []) ho2 ⟨_, hw, hf.sub ⟨rfl, rfl, rfl, rfl, trivial⟩⟩ ?_ ?_)
  · rintro s3 lr a w ⟨ρ, hw, hf⟩ hF
    replace hF : slices_Equal_46_l2 a0 a1 s3 = some lr := hF
    unfold slices_Equal_46_l2 at hF
    refine c_seq <| c_region ?_
    refine s_ hf (r_lss hf rfl rfl) fun a hf => ?_
    refine c_nt <| c_seq ?_
    rcases of_ite hF with ⟨hb4, hF⟩ | ⟨hb4, hF⟩
    rotate_left
    · refine c_iff hf rfl hb4 <| c_exit <| x_then ?_
      obtain rfl := Option.some.inj hF
      exact Rnd.stops ⟨_, hw, hf.sub trivial⟩
    refine c_ift hf rfl hb4 <| c_skip <| n_then <| c_seq <| c_block <| c_seq <| c_region ?_
    refine s_ hf (r_move hf rfl) fun a hf => ?_
    refine s_ hf (r_assign hf rfl) fun a hf => ?_
    refine c_nt <| c_seq ?_
    obtain ⟨hc5, hF⟩ := of_guard hF
    obtain ⟨ad6, c6, he6, hl6⟩ := Ro.el cProd h0 zProd hc5.1 hc5.2
    obtain ⟨hc7, hF⟩ := of_guard hF
    obtain ⟨ad8, c8, he8, hl8⟩ := Ro.el cProd h1 zProd hc7.1 hc7.2
    replace hf : Fr 26 a [(0, va0), (1, va1), (5, vI s3), (12, vI (a0.length : Int)), (13, vI s3)] := hf.sub ⟨rfl, rfl, rfl, rfl, rfl, trivial⟩
    refine c_drawL (h := 8) mixed (by kernel_rfl) (by kernel_rfl) (fun ρ w => True) ?_ [fun ρ w v => va0 = v, fun ρ w v => vI s3 = v, fun ρ w v => .pointer (some (ad6.add (s3.toNat * 27))) = v, fun ρ w v => .agg (cProd.enc (gl zProd a0 s3)).toArray = v, fun ρ w v => va1 = v, fun ρ w v => vI s3 = v, fun ρ w v => .pointer (some (ad8.add (s3.toNat * 27))) = v, fun ρ w v => .agg (cProd.enc (gl zProd a1 s3)).toArray = v] ?_ hw trivial hf ?_ ?_
    · intro ρ w ρ' w' hE hG
      skip
      exact trivial
    · exact LastsL.cons (fun _ _ _ _ _ _ h => h) <| LastsL.cons (fun _ _ _ _ _ _ h => h) <| LastsL.cons (fun _ _ _ _ _ _ h => h) <| LastsL.cons (fun _ _ _ _ _ _ h => h) <| LastsL.cons (fun _ _ _ _ _ _ h => h) <| LastsL.cons (fun _ _ _ _ _ _ h => h) <| LastsL.cons (fun _ _ _ _ _ _ h => h) <| LastsL.cons (fun _ _ _ _ _ _ h => h) <| LastsL.nil
    · refine StepsB.cons ?_ <| StepsB.cons ?_ <| StepsB.cons ?_ <| StepsB.cons ?_ <| StepsB.cons ?_ <| StepsB.cons ?_ <| StepsB.cons ?_ <| StepsB.cons ?_ <| StepsB.nil
      · intro ρ w a hw hG hf hd K hK
        exact dv_ hK hw (wn rfl) (r_move hf rfl) rfl
      · intro ρ w a hw hG hf hd K hK
        exact dv_ hK hw (wn rfl) (r_move hf rfl) rfl
      · intro ρ w a hw hG hf hd K hK
        obtain ⟨_, hf, rfl⟩ := got (hd 0 (by kernel_rfl)) hf
        obtain ⟨_, hf, rfl⟩ := got (hd 1 (by kernel_rfl)) hf
        exact dv_ hK hw (wn rfl) (r_idx Try.underlying26 sz58 hf rfl ⟨_, he6⟩ rfl hc5.1 hc5.2) rfl
      · intro ρ w a hw hG hf hd K hK
        obtain ⟨_, hf, rfl⟩ := got (hd 2 (by kernel_rfl)) hf
        exact dv_ hK hw (wn rfl) (r_load_agg ty58 hf rfl (hl6.below hw.below) (cProd.len _)) rfl
      · intro ρ w a hw hG hf hd K hK
        exact dv_ hK hw (wn rfl) (r_move hf rfl) rfl
      · intro ρ w a hw hG hf hd K hK
        exact dv_ hK hw (wn rfl) (r_move hf rfl) rfl
      · intro ρ w a hw hG hf hd K hK
        obtain ⟨_, hf, rfl⟩ := got (hd 4 (by kernel_rfl)) hf
        obtain ⟨_, hf, rfl⟩ := got (hd 5 (by kernel_rfl)) hf
        exact dv_ hK hw (wn rfl) (r_idx Try.underlying26 sz58 hf rfl ⟨_, he8⟩ rfl hc7.1 hc7.2) rfl
      · intro ρ w a hw hG hf hd K hK
        obtain ⟨_, hf, rfl⟩ := got (hd 6 (by kernel_rfl)) hf
        exact dv_ hK hw (wn rfl) (r_load_agg ty58 hf rfl (hl8.below hw.below) (cProd.len _)) rfl
    intro ρ w a hw hG hf hd
    obtain ⟨_, hf, rfl⟩ := got (hd 3 (by decide)) hf
    obtain ⟨_, hf, rfl⟩ := got (hd 7 (by decide)) hf
    refine s_ hf (r_ne (d := cProd) eq58 ⟨_, rfl⟩ gt58 hf rfl rfl) fun a hf => ?_
    refine c_nt ?_
    rcases of_ite hF with ⟨hb9, hF⟩ | ⟨hb9, hF⟩
    rotate_left
    · refine c_iff hf rfl hb9 <| c_skip <| n_block <| n_then <| c_region ?_
      refine s_ hf (r_add hf rfl rfl) fun a hf => ?_
      refine s_ hf (r_move hf rfl) fun a hf => ?_
      refine c_nil ?_
      obtain rfl := Option.some.inj hF
      exact Rnd.goes ⟨_, hw, hf.sub ⟨rfl, rfl, rfl, rfl, trivial⟩⟩
    refine c_ift hf rfl hb9 <| c_seq <| c_region ?_
    refine s_ hf (r_assign hf rfl) fun a hf => ?_
    refine c_nt <| c_retc ?_
    obtain rfl := Option.some.inj hF
    refine r_block <| r_then ?_
    refine Rnd.rets fun ho => ?_
    subst ho
    have hF := hG2
    dsimp only at hF
    obtain rfl := Option.some.inj hF
    refine r_block <| r_then <| c_ret hf (res_tmp Try.results46 hf rfl) ?_
    exact ⟨_, rfl, hw.below, rfl⟩
  rintro s3 a w hs ⟨ρ, hw, hf⟩
  subst hs
  have hF := hG2
  dsimp only at hF
  refine x_block <| n_then <| c_seq <| c_region ?_
  refine s_ hf (r_assign hf rfl) fun a hf => ?_
  refine c_nt <| c_retc ?_
  obtain rfl := Option.some.inj hF
  refine c_ret hf (res_tmp Try.results46 hf rfl) ?_
  exact ⟨_, rfl, hw.below, rfl⟩
/-! f18 -/
noncomputable def impl_AreEqualSchemes (a0 : Sch) (a1 : Sch) : Option (Bool × Int) :=
  (impl_pairCode a0 a1).bind fun x1 => if (decide (x1 ≠ 0)) = true then (some ((false, x1))) else ((impl_normals a0).bind fun x4 => (impl_sorted x4).bind fun x8 => (impl_normals a1).bind fun x12 => (impl_sorted x12).bind fun x16 => (slices_Equal_46 x8.ps x16.ps).bind fun x20 => some ((x20, 0)))
theorem impl_AreEqualSchemes_ok {w0 : World} {a0 : Sch} {a1 : Sch} {va0 : Value} {va1 : Value} (h0 : Ro (kf cProd) w0 va0 a0.ps) (h1 : Ro (kf cProd) w0 va1 a1.ps) {r : Bool × Int} (hF : impl_AreEqualSchemes a0 a1 = some r) :
    Calls Try.prog 18 [.agg ([vI a0.p, vI a0.n, vI a0.m, vI a0.k, va0]).toArray, .agg ([vI a1.p, vI a1.n, vI a1.m, vI a1.k, va1]).toArray].toArray w0 fun e w => ∃ v, e = .returned v ∧ Below w0.heap.size w0 w ∧ .tuple #[.bool r.1, .int .i64 r.2] = v := by
  refine calls_of (k := 22) Try.func18 rfl rfl (Nat.le_of_ble_eq_true rfl) fun a hf => ?_
  replace hf : Fr 22 a [(0, .agg ([vI a0.p, vI a0.n, vI a0.m, vI a0.k, va0]).toArray), (1, .agg ([vI a1.p, vI a1.n, vI a1.m, vI a1.k, va1]).toArray)] := hf
  refine c_start fun w ρ hw => ?_
  unfold impl_AreEqualSchemes at hF
  refine c_seq <| c_region ?_
  refine sx_ hf (r_box (cs := [vI a0.p, vI a0.n, vI a0.m, vI a0.k, va0]) 1 hw hf rfl rfl) fun a v w hf hΦ => ?_
  obtain ⟨g1, ρ, rfl, hw, hE, o1⟩ := hΦ
  refine sx_ hf (r_box (cs := [vI a1.p, vI a1.n, vI a1.m, vI a1.k, va1]) 2 hw hf rfl rfl) fun a v w hf hΦ => ?_
  obtain ⟨g2, ρ, rfl, hw, hE, o2⟩ := hΦ
  replace o1 := o1.ext hE
  refine s_ hf (r_assign hf rfl) fun a hf => ?_
  refine s_ hf (r_assign hf rfl) fun a hf => ?_
  refine c_nt <| c_seq <| c_seq <| c_region ?_
  refine s_ hf (r_load_agg ty28 hf rfl o1.cl rfl) fun a hf => ?_
  refine s_ hf (r_load_agg ty28 hf rfl o2.cl rfl) fun a hf => ?_
  obtain ⟨x1, hx2, hF⟩ := of_bind hF
  refine st_fn 3 hw hf rfl rfl (by decide) (r_fn en45 hf rfl) (impl_pairCode_ok (a0 := a0) (a1 := a1) (h0.now hw) (h1.now hw) hx2) fun a v w ρ hf hw hE hN hΦ => ?_
  obtain rfl := hΦ
  replace o1 := o1.ext hE
  replace o2 := o2.ext hE
  refine s_ hf (r_assign hf rfl) fun a hf => ?_
  refine c_nt <| c_seq <| c_region ?_
  refine s_ hf (r_move hf rfl) fun a hf => ?_
  refine s_ hf (r_neq hf rfl rfl) fun a hf => ?_
  refine c_nt ?_
  rcases of_ite hF with ⟨hb3, hF⟩ | ⟨hb3, hF⟩
  · refine c_ift hf rfl hb3 <| c_seq <| c_region ?_
    refine s_ hf (r_move hf rfl) fun a hf => ?_
    refine s_ hf (r_assign hf rfl) fun a hf => ?_
    refine s_ hf (r_assign hf rfl) fun a hf => ?_
    refine c_nt <| c_retc ?_
    obtain rfl := Option.some.inj hF
    refine r_then <| c_ret hf (res_tt Try.results18 hf rfl rfl) ?_
    exact ⟨_, rfl, hw.below, rfl⟩
  refine c_iff hf rfl hb3 <| c_skip <| n_then <| c_seq ?_
  obtain ⟨x4, hx5, hF⟩ := of_bind hF
  obtain ⟨x8, hx9, hF⟩ := of_bind hF
  obtain ⟨x12, hx13, hF⟩ := of_bind hF
  obtain ⟨x16, hx17, hF⟩ := of_bind hF
  replace hf : Fr 22 a [(2, .pointer (some ((⟨g1, 0, none⟩ : Addr).add 0))), (3, .pointer (some ((⟨g2, 0, none⟩ : Addr).add 0)))] := hf.sub ⟨rfl, rfl, trivial⟩
  refine c_drawL (h := 8) mixed (by kernel_rfl) (by kernel_rfl) (fun ρ w => Va ρ w 1 g1 28 ([vI a0.p, vI a0.n, vI a0.m, vI a0.k, va0]) ∧ Va ρ w 2 g2 28 ([vI a1.p, vI a1.n, vI a1.m, vI a1.k, va1])) ?_ [fun ρ w v => .agg ([vI a0.p, vI a0.n, vI a0.m, vI a0.k, va0]).toArray = v, fun ρ w v => ∃ u6, .agg ([vI x4.p, vI x4.n, vI x4.m, vI x4.k, u6]).toArray = v ∧ O58 ρ w w0 4 u6 x4.ps, fun ρ w v => ∃ u10, .agg ([vI x8.p, vI x8.n, vI x8.m, vI x8.k, u10]).toArray = v ∧ O58 ρ w w0 5 u10 x8.ps, fun ρ w v => ∃ u10, u10 = v ∧ O58 ρ w w0 5 u10 x8.ps, fun ρ w v => .agg ([vI a1.p, vI a1.n, vI a1.m, vI a1.k, va1]).toArray = v, fun ρ w v => ∃ u14, .agg ([vI x12.p, vI x12.n, vI x12.m, vI x12.k, u14]).toArray = v ∧ O58 ρ w w0 6 u14 x12.ps, fun ρ w v => ∃ u18, .agg ([vI x16.p, vI x16.n, vI x16.m, vI x16.k, u18]).toArray = v ∧ O58 ρ w w0 7 u18 x16.ps, fun ρ w v => ∃ u18, u18 = v ∧ O58 ρ w w0 7 u18 x16.ps] ?_ hw ⟨o1, o2⟩ hf ?_ ?_
  · intro ρ w ρ' w' hE hG
    obtain ⟨o1, o2⟩ := hG
    exact ⟨o1.ext hE, o2.ext hE⟩
  · exact LastsL.cons (fun _ _ _ _ _ _ h => h) <| LastsL.cons (fun _ _ _ _ _ hE h => by obtain ⟨u6, h, o4⟩ := h; exact ⟨_, h, o4.ext hE⟩) <| LastsL.cons (fun _ _ _ _ _ hE h => by obtain ⟨u10, h, o5⟩ := h; exact ⟨_, h, o5.ext hE⟩) <| LastsL.cons (fun _ _ _ _ _ hE h => by obtain ⟨u10, h, o5⟩ := h; exact ⟨_, h, o5.ext hE⟩) <| LastsL.cons (fun _ _ _ _ _ _ h => h) <| LastsL.cons (fun _ _ _ _ _ hE h => by obtain ⟨u14, h, o6⟩ := h; exact ⟨_, h, o6.ext hE⟩) <| LastsL.cons (fun _ _ _ _ _ hE h => by obtain ⟨u18, h, o7⟩ := h; exact ⟨_, h, o7.ext hE⟩) <| LastsL.cons (fun _ _ _ _ _ hE h => by obtain ⟨u18, h, o7⟩ := h; exact ⟨_, h, o7.ext hE⟩) <| LastsL.nil
  · refine StepsB.cons ?_ <| StepsB.cons ?_ <| StepsB.cons ?_ <| StepsB.cons ?_ <| StepsB.cons ?_ <| StepsB.cons ?_ <| StepsB.cons ?_ <| StepsB.cons ?_ <| StepsB.nil
    · intro ρ w a hw hG hf hd K hK
      obtain ⟨o1, o2⟩ := hG
      exact dv_ hK hw (wn rfl) (r_load_agg ty28 hf rfl o1.cl rfl) rfl
    · intro ρ w a hw hG hf hd K hK
      obtain ⟨o1, o2⟩ := hG
      obtain ⟨_, hf, rfl⟩ := got (hd 0 (by kernel_rfl)) hf
      refine dc_ hK hw (wn rfl) (r_fn en47 hf rfl) (impl_normals_ok (a0 := a0) (h0.now hw) hx5) fun v w' hΦ => ?_
      obtain ⟨hb, hΦ⟩ := hΦ
      obtain ⟨u6, rfl, hr7⟩ := hΦ
      have hE := Ext.new (ρ := ρ) 4 hb
      have o4 := Fresh.own (ρ := ρ) (B := w0.heap.size) hr7 hw.below.size 4
      exact ⟨_, hw.new 4 hb, hE, ex_ <| an_ rfl <| o4⟩
    · intro ρ w a hw hG hf hd K hK
      obtain ⟨o1, o2⟩ := hG
      obtain ⟨_, hf, ⟨u6, rfl, o4⟩⟩ := got (hd 1 (by kernel_rfl)) hf
      refine dc_ hK hw (wn rfl) (r_fn en39 hf rfl) (impl_sorted_ok (a0 := x4) o4.ro hx9) fun v w' hΦ => ?_
      obtain ⟨hb, hΦ⟩ := hΦ
      obtain ⟨u10, rfl, hr11⟩ := hΦ
      have hE := Ext.new (ρ := ρ) 5 hb
      have o5 := Fresh.own (ρ := ρ) (B := w0.heap.size) hr11 hw.below.size 5
      exact ⟨_, hw.new 5 hb, hE, ex_ <| an_ rfl <| o5⟩
    · intro ρ w a hw hG hf hd K hK
      obtain ⟨o1, o2⟩ := hG
      obtain ⟨_, hf, ⟨u10, rfl, o5⟩⟩ := got (hd 2 (by kernel_rfl)) hf
      exact dv_ hK hw (wn rfl) (r_fieldc Try.underlying28 rfl ty26 hf rfl rfl) (ex_ <| an_ rfl <| o5)
    · intro ρ w a hw hG hf hd K hK
      obtain ⟨o1, o2⟩ := hG
      exact dv_ hK hw (wn rfl) (r_load_agg ty28 hf rfl o2.cl rfl) rfl
    · intro ρ w a hw hG hf hd K hK
      obtain ⟨o1, o2⟩ := hG
      obtain ⟨_, hf, rfl⟩ := got (hd 4 (by kernel_rfl)) hf
      refine dc_ hK hw (wn rfl) (r_fn en47 hf rfl) (impl_normals_ok (a0 := a1) (h1.now hw) hx13) fun v w' hΦ => ?_
      obtain ⟨hb, hΦ⟩ := hΦ
      obtain ⟨u14, rfl, hr15⟩ := hΦ
      have hE := Ext.new (ρ := ρ) 6 hb
      have o6 := Fresh.own (ρ := ρ) (B := w0.heap.size) hr15 hw.below.size 6
      exact ⟨_, hw.new 6 hb, hE, ex_ <| an_ rfl <| o6⟩
    · intro ρ w a hw hG hf hd K hK
      obtain ⟨o1, o2⟩ := hG
      obtain ⟨_, hf, ⟨u14, rfl, o6⟩⟩ := got (hd 5 (by kernel_rfl)) hf
      refine dc_ hK hw (wn rfl) (r_fn en39 hf rfl) (impl_sorted_ok (a0 := x12) o6.ro hx17) fun v w' hΦ => ?_
      obtain ⟨hb, hΦ⟩ := hΦ
      obtain ⟨u18, rfl, hr19⟩ := hΦ
      have hE := Ext.new (ρ := ρ) 7 hb
      have o7 := Fresh.own (ρ := ρ) (B := w0.heap.size) hr19 hw.below.size 7
      exact ⟨_, hw.new 7 hb, hE, ex_ <| an_ rfl <| o7⟩
    · intro ρ w a hw hG hf hd K hK
      obtain ⟨o1, o2⟩ := hG
      obtain ⟨_, hf, ⟨u18, rfl, o7⟩⟩ := got (hd 6 (by kernel_rfl)) hf
      exact dv_ hK hw (wn rfl) (r_fieldc Try.underlying28 rfl ty26 hf rfl rfl) (ex_ <| an_ rfl <| o7)
  intro ρ w a hw hG hf hd
  obtain ⟨o1, o2⟩ := hG
  obtain ⟨_, hf, ⟨u10, rfl, o5⟩⟩ := got (hd 3 (by decide)) hf
  obtain ⟨_, hf, ⟨u18, rfl, o7⟩⟩ := got (hd 7 (by decide)) hf
  obtain ⟨x20, hx21, hF⟩ := of_bind hF
  refine st_fn 8 hw hf rfl rfl (by decide) (r_fn en46 hf rfl) (slices_Equal_46_ok o5.ro o7.ro hx21) fun a v w ρ hf hw hE hN hΦ => ?_
  obtain rfl := hΦ
  replace o1 := o1.ext hE
  replace o2 := o2.ext hE
  replace o5 := o5.ext hE
  replace o7 := o7.ext hE
  refine s_ hf (r_assign hf rfl) fun a hf => ?_
  refine s_ hf (r_assign hf rfl) fun a hf => ?_
  refine c_nt <| c_retc ?_
  obtain rfl := Option.some.inj hF
  refine c_ret hf (res_tt Try.results18 hf rfl rfl) ?_
  exact ⟨_, rfl, hw.below, rfl⟩
/-! f4 -/
noncomputable def laws_FnExactAreEqualSchemes (a0 : Sch) (a1 : Sch) : Option Bool :=
  (laws_szScheme a0 1048576).bind fun x1 => if (decide (x1 < 0)) = true then (some (true)) else ((laws_szScheme a1 x1).bind fun x4 => if (decide (x4 < 0)) = true then (some (true)) else ((laws_toScheme a0).bind fun x7 => (laws_toScheme a1).bind fun x11 => (spec_AreEqualSchemes x7 x11).bind fun x15 => (laws_toScheme a0).bind fun x17 => (laws_toScheme a1).bind fun x21 => (impl_AreEqualSchemes x17 x21).bind fun x25 => (if (x25.1 != x15.1) = true then (some true) else (some (decide (x25.2 ≠ x15.2)))).bind fun (s28 : Bool) => if s28 = true then (some (false)) else ((laws_toScheme a0).bind fun x31 => (laws_eqScheme x17 x31).bind fun x35 => if (!x35) = true then (some (false)) else ((laws_toScheme a1).bind fun x38 => (laws_eqScheme x21 x38).bind fun x42 => if (!x42) = true then (some (false)) else (some (true))))))
theorem laws_FnExactAreEqualSchemes_ok {w0 : World} {a0 : Sch} {a1 : Sch} {va0 : Value} {va1 : Value} (h0 : Ro (kf cProd) w0 va0 a0.ps) (h1 : Ro (kf cProd) w0 va1 a1.ps) {r : Bool} (hF : laws_FnExactAreEqualSchemes a0 a1 = some r) :
    Calls Try.prog 4 [.agg ([vI a0.p, vI a0.n, vI a0.m, vI a0.k, va0]).toArray, .agg ([vI a1.p, vI a1.n, vI a1.m, vI a1.k, va1]).toArray].toArray w0 fun e w => ∃ v, e = .returned v ∧ Below w0.heap.size w0 w ∧ .bool r = v := by
  refine calls_of (k := 58) Try.func4 rfl rfl (Nat.le_of_ble_eq_true rfl) fun a hf => ?_
  replace hf : Fr 58 a [(0, .agg ([vI a0.p, vI a0.n, vI a0.m, vI a0.k, va0]).toArray), (1, .agg ([vI a1.p, vI a1.n, vI a1.m, vI a1.k, va1]).toArray)] := hf
  refine c_start fun w ρ hw => ?_
  unfold laws_FnExactAreEqualSchemes at hF
  refine c_seq <| c_region ?_
  refine sx_ hf (r_box (cs := [vI a0.p, vI a0.n, vI a0.m, vI a0.k, va0]) 1 hw hf rfl rfl) fun a v w hf hΦ => ?_
  obtain ⟨g1, ρ, rfl, hw, hE, o1⟩ := hΦ
  refine sx_ hf (r_box (cs := [vI a1.p, vI a1.n, vI a1.m, vI a1.k, va1]) 2 hw hf rfl rfl) fun a v w hf hΦ => ?_
  obtain ⟨g2, ρ, rfl, hw, hE, o2⟩ := hΦ
  replace o1 := o1.ext hE
  refine s_ hf (r_assign hf rfl) fun a hf => ?_
  refine c_nt <| c_seq <| c_region ?_
  refine s_ hf (r_assign hf rfl) fun a hf => ?_
  refine c_nt <| c_seq <| c_region ?_
  refine s_ hf (r_load_agg ty24 hf rfl o1.cl rfl) fun a hf => ?_
  refine s_ hf (r_move hf rfl) fun a hf => ?_
  obtain ⟨x1, hx2, hF⟩ := of_bind hF
  refine st_fn 3 hw hf rfl rfl (by decide) (r_fn en10 hf rfl) (laws_szScheme_ok (a0 := a0) (h0.now hw) hx2) fun a v w ρ hf hw hE hN hΦ => ?_
  obtain rfl := hΦ
  replace o1 := o1.ext hE
  replace o2 := o2.ext hE
  refine s_ hf (r_assign hf rfl) fun a hf => ?_
  refine c_nt <| c_seq <| c_seq <| c_region ?_
  refine s_ hf (r_move hf rfl) fun a hf => ?_
  refine s_ hf (r_lss hf rfl rfl) fun a hf => ?_
  refine c_nt ?_
  rcases of_ite hF with ⟨hb3, hF⟩ | ⟨hb3, hF⟩
  · refine c_ift hf rfl hb3 <| c_seq <| c_region ?_
    refine s_ hf (r_assign hf rfl) fun a hf => ?_
    refine c_nt <| c_retc ?_
    obtain rfl := Option.some.inj hF
    refine r_then <| c_ret hf (res_tmp Try.results4 hf rfl) ?_
    exact ⟨_, rfl, hw.below, rfl⟩
  refine c_iff hf rfl hb3 <| c_skip <| n_then <| c_seq <| c_region ?_
  refine s_ hf (r_load_agg ty24 hf rfl o2.cl rfl) fun a hf => ?_
  refine s_ hf (r_move hf rfl) fun a hf => ?_
  obtain ⟨x4, hx5, hF⟩ := of_bind hF
  refine st_fn 4 hw hf rfl rfl (by decide) (r_fn en10 hf rfl) (laws_szScheme_ok (a0 := a1) (h1.now hw) hx5) fun a v w ρ hf hw hE hN hΦ => ?_
  obtain rfl := hΦ
  replace o1 := o1.ext hE
  replace o2 := o2.ext hE
  refine s_ hf (r_assign hf rfl) fun a hf => ?_
  refine c_nt <| c_seq <| c_seq <| c_region ?_
  refine s_ hf (r_move hf rfl) fun a hf => ?_
  refine s_ hf (r_lss hf rfl rfl) fun a hf => ?_
  refine c_nt ?_
  rcases of_ite hF with ⟨hb6, hF⟩ | ⟨hb6, hF⟩
  · refine c_ift hf rfl hb6 <| c_seq <| c_region ?_
    refine s_ hf (r_assign hf rfl) fun a hf => ?_
    refine c_nt <| c_retc ?_
    obtain rfl := Option.some.inj hF
    refine r_then <| c_ret hf (res_tmp Try.results4 hf rfl) ?_
    exact ⟨_, rfl, hw.below, rfl⟩
  refine c_iff hf rfl hb6 <| c_skip <| n_then <| c_seq ?_
  obtain ⟨x7, hx8, hF⟩ := of_bind hF
  obtain ⟨x11, hx12, hF⟩ := of_bind hF
  obtain ⟨x15, hx16, hF⟩ := of_bind hF
  replace hf : Fr 58 a [(2, .pointer (some ((⟨g1, 0, none⟩ : Addr).add 0))), (3, .pointer (some ((⟨g2, 0, none⟩ : Addr).add 0)))] := hf.sub ⟨rfl, rfl, trivial⟩
  refine c_drawL (h := 9) mixed (by kernel_rfl) (by kernel_rfl) (fun ρ w => Va ρ w 1 g1 24 ([vI a0.p, vI a0.n, vI a0.m, vI a0.k, va0]) ∧ Va ρ w 2 g2 24 ([vI a1.p, vI a1.n, vI a1.m, vI a1.k, va1])) ?_ [fun ρ w v => .agg ([vI a0.p, vI a0.n, vI a0.m, vI a0.k, va0]).toArray = v, fun ρ w v => ∃ u9, .agg ([vI x7.p, vI x7.n, vI x7.m, vI x7.k, u9]).toArray = v ∧ O58 ρ w w0 5 u9 x7.ps, fun ρ w v => .agg ([vI a1.p, vI a1.n, vI a1.m, vI a1.k, va1]).toArray = v, fun ρ w v => ∃ u13, .agg ([vI x11.p, vI x11.n, vI x11.m, vI x11.k, u13]).toArray = v ∧ O58 ρ w w0 6 u13 x11.ps, fun ρ w v => .tuple #[.bool x15.1, vI x15.2] = v, fun ρ w v => .tuple #[.bool x15.1, vI x15.2] = v, fun ρ w v => .bool x15.1 = v, fun ρ w v => vI x15.2 = v, fun ρ w v => .bool x15.1 = v] ?_ hw ⟨o1, o2⟩ hf ?_ ?_
  · intro ρ w ρ' w' hE hG
    obtain ⟨o1, o2⟩ := hG
    exact ⟨o1.ext hE, o2.ext hE⟩
  · exact LastsL.cons (fun _ _ _ _ _ _ h => h) <| LastsL.cons (fun _ _ _ _ _ hE h => by obtain ⟨u9, h, o5⟩ := h; exact ⟨_, h, o5.ext hE⟩) <| LastsL.cons (fun _ _ _ _ _ _ h => h) <| LastsL.cons (fun _ _ _ _ _ hE h => by obtain ⟨u13, h, o6⟩ := h; exact ⟨_, h, o6.ext hE⟩) <| LastsL.cons (fun _ _ _ _ _ _ h => h) <| LastsL.cons (fun _ _ _ _ _ _ h => h) <| LastsL.cons (fun _ _ _ _ _ _ h => h) <| LastsL.cons (fun _ _ _ _ _ _ h => h) <| LastsL.cons (fun _ _ _ _ _ _ h => h) <| LastsL.nil
  · refine StepsB.cons ?_ <| StepsB.cons ?_ <| StepsB.cons ?_ <| StepsB.cons ?_ <| StepsB.cons ?_ <| StepsB.cons ?_ <| StepsB.cons ?_ <| StepsB.cons ?_ <| StepsB.cons ?_ <| StepsB.nil
    · intro ρ w a hw hG hf hd K hK
      obtain ⟨o1, o2⟩ := hG
      exact dv_ hK hw (wn rfl) (r_load_agg ty24 hf rfl o1.cl rfl) rfl
    · intro ρ w a hw hG hf hd K hK
      obtain ⟨o1, o2⟩ := hG
      obtain ⟨_, hf, rfl⟩ := got (hd 0 (by kernel_rfl)) hf
      refine dc_ hK hw (wn rfl) (r_fn en12 hf rfl) (laws_toScheme_ok (a0 := a0) (h0.now hw) hx8) fun v w' hΦ => ?_
      obtain ⟨hb, hΦ⟩ := hΦ
      obtain ⟨u9, rfl, hr10⟩ := hΦ
      have hE := Ext.new (ρ := ρ) 5 hb
      have o5 := Fresh.own (ρ := ρ) (B := w0.heap.size) hr10 hw.below.size 5
      exact ⟨_, hw.new 5 hb, hE, ex_ <| an_ rfl <| o5⟩
    · intro ρ w a hw hG hf hd K hK
      obtain ⟨o1, o2⟩ := hG
      exact dv_ hK hw (wn rfl) (r_load_agg ty24 hf rfl o2.cl rfl) rfl
    · intro ρ w a hw hG hf hd K hK
      obtain ⟨o1, o2⟩ := hG
      obtain ⟨_, hf, rfl⟩ := got (hd 2 (by kernel_rfl)) hf
      refine dc_ hK hw (wn rfl) (r_fn en12 hf rfl) (laws_toScheme_ok (a0 := a1) (h1.now hw) hx12) fun v w' hΦ => ?_
      obtain ⟨hb, hΦ⟩ := hΦ
      obtain ⟨u13, rfl, hr14⟩ := hΦ
      have hE := Ext.new (ρ := ρ) 6 hb
      have o6 := Fresh.own (ρ := ρ) (B := w0.heap.size) hr14 hw.below.size 6
      exact ⟨_, hw.new 6 hb, hE, ex_ <| an_ rfl <| o6⟩
    · intro ρ w a hw hG hf hd K hK
      obtain ⟨o1, o2⟩ := hG
      obtain ⟨_, hf, ⟨u9, rfl, o5⟩⟩ := got (hd 1 (by kernel_rfl)) hf
      obtain ⟨_, hf, ⟨u13, rfl, o6⟩⟩ := got (hd 3 (by kernel_rfl)) hf
      refine dc_ hK hw (wn rfl) (r_fn en17 hf rfl) (spec_AreEqualSchemes_ok (a0 := x7) (a1 := x11) o5.ro o6.ro hx16) fun v w' hΦ => ?_
      obtain ⟨hb, hΦ⟩ := hΦ
      obtain rfl := hΦ
      have hE := Ext.new (ρ := ρ) 7 hb
      exact ⟨_, hw.new 7 hb, hE, rfl⟩
    · intro ρ w a hw hG hf hd K hK
      obtain ⟨o1, o2⟩ := hG
      obtain ⟨_, hf, rfl⟩ := got (hd 4 (by kernel_rfl)) hf
      exact dv_ hK hw (wn rfl) (r_move hf rfl) rfl
    · intro ρ w a hw hG hf hd K hK
      obtain ⟨o1, o2⟩ := hG
      obtain ⟨_, hf, rfl⟩ := got (hd 5 (by kernel_rfl)) hf
      exact dv_ hK hw (wn rfl) (r_extract hf rfl rfl) rfl
    · intro ρ w a hw hG hf hd K hK
      obtain ⟨o1, o2⟩ := hG
      obtain ⟨_, hf, rfl⟩ := got (hd 5 (by kernel_rfl)) hf
      exact dv_ hK hw (wn rfl) (r_extract hf rfl rfl) rfl
    · intro ρ w a hw hG hf hd K hK
      obtain ⟨o1, o2⟩ := hG
      obtain ⟨_, hf, rfl⟩ := got (hd 6 (by kernel_rfl)) hf
      exact dv_ hK hw (wn rfl) (r_assign hf rfl) rfl
  intro ρ w a hw hG hf hd
  obtain ⟨o1, o2⟩ := hG
  obtain ⟨_, hf, rfl⟩ := got (hd 7 (by decide)) hf
  obtain ⟨_, hf, rfl⟩ := got (hd 8 (by decide)) hf
  refine s_ hf (r_assign hf rfl) fun a hf => ?_
  refine c_nt <| c_seq <| c_region ?_
  refine s_ hf (r_load_agg ty24 hf rfl o1.cl rfl) fun a hf => ?_
  obtain ⟨x17, hx18, hF⟩ := of_bind hF
  refine st_fn 8 hw hf rfl rfl (by decide) (r_fn en12 hf rfl) (laws_toScheme_ok (a0 := a0) (h0.now hw) hx18) fun a v w ρ hf hw hE hN hΦ => ?_
  obtain ⟨u19, rfl, hr20⟩ := hΦ
  replace o1 := o1.ext hE
  replace o2 := o2.ext hE
  have o8 := hN hr20
  have o10 : Ow (kf cProd) 58 ρ w w0.heap.size 10 (.slice none 0 0) [] := Ow.nil _ _ _ _ _ _
  refine sx_ hf (r_alloc (cs := [vI 0, vI 0, vI 0, vI 0, (.slice none 0 0)]) 9 ze28 rfl hw) fun a v w hf hΦ => ?_
  obtain ⟨g9, ρ, rfl, hw, hE, o9⟩ := hΦ
  replace o1 := o1.ext hE
  replace o2 := o2.ext hE
  replace o8 := o8.ext hE
  replace o10 := o10.ext hE
  refine sk_ hf (r_store_w (cs' := [vI x17.p, vI x17.n, vI x17.m, vI x17.k, u19]) hw o9 (by decide) ty28 rfl rfl (one_sch o8.ro.one) hf rfl rfl rfl) fun a w hf hΦ => ?_
  obtain ⟨hw, hA, o9⟩ := hΦ
  replace o1 := o1.adv hA (by decide)
  replace o2 := o2.adv hA (by decide)
  replace o8 := o8.adv hA (by decide)
  replace o10 := o10.adv hA (by decide)
  refine c_nt <| c_seq <| c_region ?_
  refine s_ hf (r_load_agg ty24 hf rfl o2.cl rfl) fun a hf => ?_
  obtain ⟨x21, hx22, hF⟩ := of_bind hF
  refine st_fn 11 hw hf rfl rfl (by decide) (r_fn en12 hf rfl) (laws_toScheme_ok (a0 := a1) (h1.now hw) hx22) fun a v w ρ hf hw hE hN hΦ => ?_
  obtain ⟨u23, rfl, hr24⟩ := hΦ
  replace o1 := o1.ext hE
  replace o2 := o2.ext hE
  replace o8 := o8.ext hE
  replace o10 := o10.ext hE
  replace o9 := o9.ext hE
  have o11 := hN hr24
  have o13 : Ow (kf cProd) 58 ρ w w0.heap.size 13 (.slice none 0 0) [] := Ow.nil _ _ _ _ _ _
  refine sx_ hf (r_alloc (cs := [vI 0, vI 0, vI 0, vI 0, (.slice none 0 0)]) 12 ze28 rfl hw) fun a v w hf hΦ => ?_
  obtain ⟨g12, ρ, rfl, hw, hE, o12⟩ := hΦ
  replace o1 := o1.ext hE
  replace o2 := o2.ext hE
  replace o8 := o8.ext hE
  replace o10 := o10.ext hE
  replace o9 := o9.ext hE
  replace o11 := o11.ext hE
  replace o13 := o13.ext hE
  refine sk_ hf (r_store_w (cs' := [vI x21.p, vI x21.n, vI x21.m, vI x21.k, u23]) hw o12 (by decide) ty28 rfl rfl (one_sch o11.ro.one) hf rfl rfl rfl) fun a w hf hΦ => ?_
  obtain ⟨hw, hA, o12⟩ := hΦ
  replace o1 := o1.adv hA (by decide)
  replace o2 := o2.adv hA (by decide)
  replace o8 := o8.adv hA (by decide)
  replace o10 := o10.adv hA (by decide)
  replace o9 := o9.adv hA (by decide)
  replace o11 := o11.adv hA (by decide)
  replace o13 := o13.adv hA (by decide)
  refine c_nt <| c_seq <| c_region ?_
  refine s_ hf (r_load_agg ty28 hf rfl o9.cl rfl) fun a hf => ?_
  refine s_ hf (r_load_agg ty28 hf rfl o12.cl rfl) fun a hf => ?_
  obtain ⟨x25, hx26, hF⟩ := of_bind hF
  refine st_fn 14 hw hf rfl rfl (by decide) (r_fn en18 hf rfl) (impl_AreEqualSchemes_ok (a0 := x17) (a1 := x21) o8.ro o11.ro hx26) fun a v w ρ hf hw hE hN hΦ => ?_
  obtain rfl := hΦ
  replace o1 := o1.ext hE
  replace o2 := o2.ext hE
  replace o8 := o8.ext hE
  replace o10 := o10.ext hE
  replace o9 := o9.ext hE
  replace o11 := o11.ext hE
  replace o13 := o13.ext hE
  replace o12 := o12.ext hE
  refine s_ hf (r_move hf rfl) fun a hf => ?_
  refine s_ hf (r_extract hf rfl rfl) fun a hf => ?_
  refine s_ hf (r_extract hf rfl rfl) fun a hf => ?_
  refine s_ hf (r_assign hf rfl) fun a hf => ?_
  refine s_ hf (r_assign hf rfl) fun a hf => ?_
  refine c_nt <| c_seq <| c_seq ?_
  obtain ⟨s28, hT27, hG27⟩ := of_bind hF
  clear hF
  refine c_meet (fun (s28 : Bool) a w => ∃ ρ, Wd w0 ρ w ∧ Fr 58 a [(2, .pointer (some ((⟨g1, 0, none⟩ : Addr).add 0))), (3, .pointer (some ((⟨g2, 0, none⟩ : Addr).add 0))), (8, .pointer (some ((⟨g9, 0, none⟩ : Addr).add 0))), (9, .pointer (some ((⟨g12, 0, none⟩ : Addr).add 0))), (47, .bool s28)] ∧ Va ρ w 1 g1 24 ([vI a0.p, vI a0.n, vI a0.m, vI a0.k, va0]) ∧ Va ρ w 2 g2 24 ([vI a1.p, vI a1.n, vI a1.m, vI a1.k, va1]) ∧ O58 ρ w w0 8 u19 x17.ps ∧ Va ρ w 9 g9 28 ([vI x17.p, vI x17.n, vI x17.m, vI x17.k, u19]) ∧ O58 ρ w w0 11 u23 x21.ps ∧ Va ρ w 12 g12 28 ([vI x21.p, vI x21.n, vI x21.m, vI x21.k, u23])) s28 ?_ ?_
  · have hF := hT27
    refine c_region ?_
    refine s_ hf (r_move hf rfl) fun a hf => ?_
    refine s_ hf (r_move hf rfl) fun a hf => ?_
    refine s_ hf (r_neqb Try.underlying4 hf rfl rfl) fun a hf => ?_
    refine s_ hf (r_move hf rfl) fun a hf => ?_
    rcases of_ite hF with ⟨hb29, hF⟩ | ⟨hb29, hF⟩
    · refine st_no (b := true) hf rfl rfl rfl hb29 rfl (by decide) fun a hf => ?_
      refine st_no (b := true) hf rfl rfl rfl hb29 rfl (by decide) fun a hf => ?_
      refine st_no (b := true) hf rfl rfl rfl hb29 rfl (by decide) fun a hf => ?_
      refine s_ hf (r_pick (b := true) hf rfl hb29 rfl) fun a hf => ?_
      refine c_nil ⟨rfl, ?_⟩
      obtain rfl := Option.some.inj hF
      exact ⟨_, hw, hf.sub ⟨rfl, rfl, rfl, rfl, rfl, trivial⟩, o1, o2, o8, o9, o11, o12⟩
    refine st_g (b := false) hf rfl rfl rfl hb29 rfl (by decide) (r_move hf rfl) fun a hf => ?_
    refine st_g (b := false) hf rfl rfl rfl hb29 rfl (by decide) (r_move hf rfl) fun a hf => ?_
    refine st_g (b := false) hf rfl rfl rfl hb29 rfl (by decide) (r_neq hf rfl rfl) fun a hf => ?_
    refine s_ hf (r_pick (b := false) hf rfl hb29 rfl) fun a hf => ?_
    refine c_nil ⟨rfl, ?_⟩
    obtain rfl := Option.some.inj hF
    exact ⟨_, hw, hf.sub ⟨rfl, rfl, rfl, rfl, rfl, trivial⟩, o1, o2, o8, o9, o11, o12⟩
  rintro a w ⟨ρ, hw, hf, o1, o2, o8, o9, o11, o12⟩
  have hF := hG27
  refine n_then ?_
  rcases of_ite hF with ⟨hb30, hF⟩ | ⟨hb30, hF⟩
  · refine c_ift hf rfl hb30 <| c_seq <| c_region ?_
    refine s_ hf (r_assign hf rfl) fun a hf => ?_
    refine c_nt <| c_retc ?_
    obtain rfl := Option.some.inj hF
    refine r_then <| c_ret hf (res_tmp Try.results4 hf rfl) ?_
    exact ⟨_, rfl, hw.below, rfl⟩
  refine c_iff hf rfl hb30 <| c_skip <| n_then <| c_seq <| c_seq ?_
  obtain ⟨x31, hx32, hF⟩ := of_bind hF
  replace hf : Fr 58 a [(2, .pointer (some ((⟨g1, 0, none⟩ : Addr).add 0))), (3, .pointer (some ((⟨g2, 0, none⟩ : Addr).add 0))), (8, .pointer (some ((⟨g9, 0, none⟩ : Addr).add 0))), (9, .pointer (some ((⟨g12, 0, none⟩ : Addr).add 0)))] := hf.sub ⟨rfl, rfl, rfl, rfl, trivial⟩
  refine c_drawL (h := 3) mixed (by kernel_rfl) (by kernel_rfl) (fun ρ w => Va ρ w 1 g1 24 ([vI a0.p, vI a0.n, vI a0.m, vI a0.k, va0]) ∧ Va ρ w 2 g2 24 ([vI a1.p, vI a1.n, vI a1.m, vI a1.k, va1]) ∧ O58 ρ w w0 8 u19 x17.ps ∧ Va ρ w 9 g9 28 ([vI x17.p, vI x17.n, vI x17.m, vI x17.k, u19]) ∧ O58 ρ w w0 11 u23 x21.ps ∧ Va ρ w 12 g12 28 ([vI x21.p, vI x21.n, vI x21.m, vI x21.k, u23])) ?_ [fun ρ w v => .agg ([vI x17.p, vI x17.n, vI x17.m, vI x17.k, u19]).toArray = v, fun ρ w v => .agg ([vI a0.p, vI a0.n, vI a0.m, vI a0.k, va0]).toArray = v, fun ρ w v => ∃ u33, .agg ([vI x31.p, vI x31.n, vI x31.m, vI x31.k, u33]).toArray = v ∧ O58 ρ w w0 15 u33 x31.ps] ?_ hw ⟨o1, o2, o8, o9, o11, o12⟩ hf ?_ ?_
  · intro ρ w ρ' w' hE hG
    obtain ⟨o1, o2, o8, o9, o11, o12⟩ := hG
    exact ⟨o1.ext hE, o2.ext hE, o8.ext hE, o9.ext hE, o11.ext hE, o12.ext hE⟩
  · exact LastsL.cons (fun _ _ _ _ _ _ h => h) <| LastsL.cons (fun _ _ _ _ _ _ h => h) <| LastsL.cons (fun _ _ _ _ _ hE h => by obtain ⟨u33, h, o15⟩ := h; exact ⟨_, h, o15.ext hE⟩) <| LastsL.nil
  · refine StepsB.cons ?_ <| StepsB.cons ?_ <| StepsB.cons ?_ <| StepsB.nil
    · intro ρ w a hw hG hf hd K hK
      obtain ⟨o1, o2, o8, o9, o11, o12⟩ := hG
      exact dv_ hK hw (wn rfl) (r_load_agg ty28 hf rfl o9.cl rfl) rfl
    · intro ρ w a hw hG hf hd K hK
      obtain ⟨o1, o2, o8, o9, o11, o12⟩ := hG
      exact dv_ hK hw (wn rfl) (r_load_agg ty24 hf rfl o1.cl rfl) rfl
    · intro ρ w a hw hG hf hd K hK
      obtain ⟨o1, o2, o8, o9, o11, o12⟩ := hG
      obtain ⟨_, hf, rfl⟩ := got (hd 1 (by kernel_rfl)) hf
      refine dc_ hK hw (wn rfl) (r_fn en12 hf rfl) (laws_toScheme_ok (a0 := a0) (h0.now hw) hx32) fun v w' hΦ => ?_
      obtain ⟨hb, hΦ⟩ := hΦ
      obtain ⟨u33, rfl, hr34⟩ := hΦ
      have hE := Ext.new (ρ := ρ) 15 hb
      have o15 := Fresh.own (ρ := ρ) (B := w0.heap.size) hr34 hw.below.size 15
      exact ⟨_, hw.new 15 hb, hE, ex_ <| an_ rfl <| o15⟩
  intro ρ w a hw hG hf hd
  obtain ⟨o1, o2, o8, o9, o11, o12⟩ := hG
  obtain ⟨_, hf, rfl⟩ := got (hd 0 (by decide)) hf
  obtain ⟨_, hf, ⟨u33, rfl, o15⟩⟩ := got (hd 2 (by decide)) hf
  obtain ⟨x35, hx36, hF⟩ := of_bind hF
  refine st_fn 16 hw hf rfl rfl (by decide) (r_fn en14 hf rfl) (laws_eqScheme_ok (a0 := x17) (a1 := x31) o8.ro o15.ro hx36) fun a v w ρ hf hw hE hN hΦ => ?_
  obtain rfl := hΦ
  replace o1 := o1.ext hE
  replace o2 := o2.ext hE
  replace o8 := o8.ext hE
  replace o9 := o9.ext hE
  replace o11 := o11.ext hE
  replace o12 := o12.ext hE
  replace o15 := o15.ext hE
  refine s_ hf (r_not hf rfl) fun a hf => ?_
  refine c_nt ?_
  rcases of_ite hF with ⟨hb37, hF⟩ | ⟨hb37, hF⟩
  · refine c_ift hf rfl hb37 <| c_seq <| c_region ?_
    refine s_ hf (r_assign hf rfl) fun a hf => ?_
    refine c_nt <| c_retc ?_
    obtain rfl := Option.some.inj hF
    refine r_then <| c_ret hf (res_tmp Try.results4 hf rfl) ?_
    exact ⟨_, rfl, hw.below, rfl⟩
  refine c_iff hf rfl hb37 <| c_skip <| n_then <| c_seq <| c_seq ?_
  obtain ⟨x38, hx39, hF⟩ := of_bind hF
  replace hf : Fr 58 a [(3, .pointer (some ((⟨g2, 0, none⟩ : Addr).add 0))), (9, .pointer (some ((⟨g12, 0, none⟩ : Addr).add 0)))] := hf.sub ⟨rfl, rfl, trivial⟩
  refine c_drawL (h := 3) mixed (by kernel_rfl) (by kernel_rfl) (fun ρ w => Va ρ w 2 g2 24 ([vI a1.p, vI a1.n, vI a1.m, vI a1.k, va1]) ∧ O58 ρ w w0 11 u23 x21.ps ∧ Va ρ w 12 g12 28 ([vI x21.p, vI x21.n, vI x21.m, vI x21.k, u23])) ?_ [fun ρ w v => .agg ([vI x21.p, vI x21.n, vI x21.m, vI x21.k, u23]).toArray = v, fun ρ w v => .agg ([vI a1.p, vI a1.n, vI a1.m, vI a1.k, va1]).toArray = v, fun ρ w v => ∃ u40, .agg ([vI x38.p, vI x38.n, vI x38.m, vI x38.k, u40]).toArray = v ∧ O58 ρ w w0 17 u40 x38.ps] ?_ hw ⟨o2, o11, o12⟩ hf ?_ ?_
  · intro ρ w ρ' w' hE hG
    obtain ⟨o2, o11, o12⟩ := hG
    exact ⟨o2.ext hE, o11.ext hE, o12.ext hE⟩
  · exact LastsL.cons (fun _ _ _ _ _ _ h => h) <| LastsL.cons (fun _ _ _ _ _ _ h => h) <| LastsL.cons (fun _ _ _ _ _ hE h => by obtain ⟨u40, h, o17⟩ := h; exact ⟨_, h, o17.ext hE⟩) <| LastsL.nil
  · refine StepsB.cons ?_ <| StepsB.cons ?_ <| StepsB.cons ?_ <| StepsB.nil
    · intro ρ w a hw hG hf hd K hK
      obtain ⟨o2, o11, o12⟩ := hG
      exact dv_ hK hw (wn rfl) (r_load_agg ty28 hf rfl o12.cl rfl) rfl
    · intro ρ w a hw hG hf hd K hK
      obtain ⟨o2, o11, o12⟩ := hG
      exact dv_ hK hw (wn rfl) (r_load_agg ty24 hf rfl o2.cl rfl) rfl
    · intro ρ w a hw hG hf hd K hK
      obtain ⟨o2, o11, o12⟩ := hG
      obtain ⟨_, hf, rfl⟩ := got (hd 1 (by kernel_rfl)) hf
      refine dc_ hK hw (wn rfl) (r_fn en12 hf rfl) (laws_toScheme_ok (a0 := a1) (h1.now hw) hx39) fun v w' hΦ => ?_
      obtain ⟨hb, hΦ⟩ := hΦ
      obtain ⟨u40, rfl, hr41⟩ := hΦ
      have hE := Ext.new (ρ := ρ) 17 hb
      have o17 := Fresh.own (ρ := ρ) (B := w0.heap.size) hr41 hw.below.size 17
      exact ⟨_, hw.new 17 hb, hE, ex_ <| an_ rfl <| o17⟩
  intro ρ w a hw hG hf hd
  obtain ⟨o2, o11, o12⟩ := hG
  obtain ⟨_, hf, rfl⟩ := got (hd 0 (by decide)) hf
  obtain ⟨_, hf, ⟨u40, rfl, o17⟩⟩ := got (hd 2 (by decide)) hf
  obtain ⟨x42, hx43, hF⟩ := of_bind hF
  refine st_fn 18 hw hf rfl rfl (by decide) (r_fn en14 hf rfl) (laws_eqScheme_ok (a0 := x21) (a1 := x38) o11.ro o17.ro hx43) fun a v w ρ hf hw hE hN hΦ => ?_
  obtain rfl := hΦ
  replace o2 := o2.ext hE
  replace o11 := o11.ext hE
  replace o12 := o12.ext hE
  replace o17 := o17.ext hE
  refine s_ hf (r_not hf rfl) fun a hf => ?_
  refine c_nt ?_
  rcases of_ite hF with ⟨hb44, hF⟩ | ⟨hb44, hF⟩
  · refine c_ift hf rfl hb44 <| c_seq <| c_region ?_
    refine s_ hf (r_assign hf rfl) fun a hf => ?_
    refine c_nt <| c_retc ?_
    obtain rfl := Option.some.inj hF
    refine r_then <| c_ret hf (res_tmp Try.results4 hf rfl) ?_
    exact ⟨_, rfl, hw.below, rfl⟩
  refine c_iff hf rfl hb44 <| c_skip <| n_then <| c_seq <| c_region ?_
  refine s_ hf (r_assign hf rfl) fun a hf => ?_
  refine c_nt <| c_retc ?_
  obtain rfl := Option.some.inj hF
  refine c_ret hf (res_tmp Try.results4 hf rfl) ?_
  exact ⟨_, rfl, hw.below, rfl⟩
end Go.Proofs.YtB
